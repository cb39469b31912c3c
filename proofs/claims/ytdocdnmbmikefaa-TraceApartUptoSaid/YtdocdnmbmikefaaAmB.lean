/- An abstract machine over the model: what ties the named objects to memory, and how memory's steps keep it. -/
import Derived.Test.YtdocdnmbmikefaaAmA
set_option linter.unusedVariables false
set_option linter.unusedSimpArgs false
namespace Go.AM

/-- May it lie in one cell? -/
def cellOK : AV → Bool
  | .agg _ | .tup _ | .opt _ _ | .any => false
  | _ => true

theorem DV.one {R : Nat → Option Obj} {x : D} {v : Value} (h : DV R x v) : v.oneCell' = true := by cases h <;> rfl
theorem V.one {L : Link} {x : AV} {v : Value} (h : V L x v) (hx : cellOK x = true) : v.oneCell' = true := by
  cases h <;> first | rfl | (simp [cellOK] at hx; done) | (rename_i hd; exact hd.one)
theorem V.notAgg {L : Link} {x : AV} {v : Value} (h : V L x v) (hx : cellOK x = true) : v.cells = #[v] := by
  have := h.one hx
  cases v <;> first | rfl | (simp [Value.oneCell'] at this)

/-- A map's key: whole numbers; in a struct or an array, or bare. -/
def encKey (agg : Bool) (ks : List Int) : Value := if agg then .agg (ks.map (Value.int .i64)).toArray else .int .i64 (ks.headD 0)

structure EntsR (L : Link) (agg : Bool) (kn : Nat) (es : List (List Int × AV)) (ents : Array MapEntry) (clock : Nat) : Prop where
  size : ents.size = es.length
  ent : ∀ (i : Nat) (p : List Int × AV) (e : MapEntry), es[i]? = some p → ents[i]? = some e → e.key = encKey agg p.1 ∧ V L p.2 e.val
  wid : ∀ p, p ∈ es → p.1.length = kn
  one : agg = false → kn = 1
  born : ents.toList.Pairwise (fun a b => a.born < b.born)
  last : ∀ e, e ∈ ents.toList → e.born < clock
theorem EntsR.mono {L L' : Link} (h : Ext L L') {agg kn es ents clock} (hr : EntsR L agg kn es ents clock) : EntsR L' agg kn es ents clock :=
  ⟨hr.size, fun i p e h1 h2 => ⟨(hr.ent i p e h1 h2).1, (hr.ent i p e h1 h2).2.mono h⟩, hr.wid, hr.one, hr.born, hr.last⟩

/-- What an iterator needs of a pinned map: when its entries were born, and its clock. -/
abbrev Gh := Nat → List Nat × Nat

inductive AOb where
  | cells (v sz : Nat) (rows : List (List AV))
  | map (pin agg : Bool) (kn : Nat) (es : List (List Int × AV))
  | itr (g : Bool) (cur : Option (List Int × AV)) (left : List (List Int × AV))
  | loop (st : LoopState) (pend : Option Code) (ρ : List (Nat × AV)) (f N : Nat) (ps : Array Tmp) (asg body : Code)

/-- A slot's value: the one written last. -/
def look : List (Nat × AV) → Nat → AV
  | [], _ => .any
  | (k, v) :: r, t => if t = k then v else look r t

abbrev AHeap := Nat → Option AOb
def upd (h : AHeap) (l : Nat) (o : Option AOb) : AHeap := fun k => if k = l then o else h k
theorem upd_same (h l o) : upd h l o l = o := by simp [upd]
theorem upd_ne (h : AHeap) {l k : Nat} (o) (e : k ≠ l) : upd h l o k = h k := by simp [upd, e]
theorem upd_upd (h : AHeap) (l : Nat) (o o') : upd (upd h l o) l o' = upd h l o' := by funext k; simp only [upd]; split <;> rfl

/-- Rows of cells at a place of a block. -/
def RowsAt (L : Link) (c : Array Value) (o sz : Nat) (rows : List (List AV)) : Prop :=
  (∀ row, row ∈ rows → row.length = sz) ∧
  ∀ i j row x, rows[i]? = some row → row[j]? = some x → V L x (c.getD (o + i * sz + j) undef) ∧ (c.getD (o + i * sz + j) undef).oneCell' = true

theorem RowsAt.mono {L L' : Link} (h : Ext L L') {c o sz rows} (hr : RowsAt L c o sz rows) : RowsAt L' c o sz rows :=
  ⟨hr.1, fun i j row x hi hj => ⟨(hr.2 i j row x hi hj).1.mono h, (hr.2 i j row x hi hj).2⟩⟩

def CellsR (L : Link) (own : Nat → Nat) (l v sz : Nat) (rows : List (List AV)) (w : World) : Prop :=
  (L.pl l v = some .nil ∧ rows = []) ∨
  ∃ b o cap c e, L.pl l v = some (.at b o sz cap) ∧ w.heap[b]? = some (.cells c e (0, 0)) ∧ own b = l ∧ L.R b = none ∧ o + cap * sz ≤ c.size ∧
    rows.length ≤ cap ∧ RowsAt L c o sz rows

/-- A walk over a map's entries: the one at hand, those that are left. -/
def EntL (L : Link) (g : Bool) (left : List (List Int × AV)) (es : List MapEntry) : Prop :=
  left.length = es.length ∧ ∀ (i : Nat) p e, left[i]? = some p → es[i]? = some e → e.key = encKey g p.1 ∧ V L p.2 e.val
def leftL (ents : Array MapEntry) (seen : Array Nat) : List MapEntry := ents.toList.filter fun e => !seen.contains e.born
structure ItrE (L : Link) (g : Bool) (cur : Option (List Int × AV)) (left : List (List Int × AV)) (ents : Array MapEntry) (seen : Array Nat) (clock : Nat) : Prop where
  born : ents.toList.Pairwise (fun a b => a.born < b.born)
  last : ∀ e, e ∈ ents.toList → e.born < clock
  left : EntL L g left (leftL ents seen)
  cur : ∀ p, cur = some p → ∃ e s', e ∈ ents.toList ∧ seen = Array.push s' e.born ∧ e.key = encKey g p.1 ∧ V L p.2 e.val
theorem ItrE.map {L L' : Link} {g : Bool} {cur : Option (List Int × AV)} {left : List (List Int × AV)} {ents : Array MapEntry} {seen : Array Nat} {clock : Nat} (h : ItrE L g cur left ents seen clock)
    (hv : ∀ p v, (p ∈ left ∨ cur = some p) → V L p.2 v → V L' p.2 v) : ItrE L' g cur left ents seen clock :=
  ⟨h.born, h.last, ⟨h.left.1, fun i p e h1 h2 => ⟨(h.left.2 i p e h1 h2).1, hv p _ (.inl (List.mem_of_getElem? h1)) (h.left.2 i p e h1 h2).2⟩⟩, fun p hp => by
    obtain ⟨e, s', q1, q2, q3, q4⟩ := h.cur p hp
    exact ⟨e, s', q1, q2, q3, hv p _ (.inr hp) q4⟩⟩
theorem ItrE.mono {L L' : Link} (hx : Ext L L') {g : Bool} {cur : Option (List Int × AV)} {left : List (List Int × AV)} {ents : Array MapEntry} {seen : Array Nat} {clock : Nat} (h : ItrE L g cur left ents seen clock) : ItrE L' g cur left ents seen clock := h.map fun _ _ _ hv => hv.mono hx

def ObRel (L : Link) (own : Nat → Nat) (gh : Gh) (l : Nat) (w : World) : AOb → Prop
  | .cells v sz rows => (∀ v', v < v' → L.pl l v' = none) ∧ CellsR L own l v sz rows w
  | .map pin agg kn es => ∃ r ents clock, L.mp l = some r ∧ w.heap[r]? = some (.map ents clock) ∧ own r = l ∧ L.R r = none ∧ EntsR L agg kn es ents clock ∧ (pin = true → gh l = (ents.toList.map (·.born), clock))
  | .itr g cur left => ∃ r rm ents clock seen, L.mp l = some r ∧ w.heap[r]? = some (.mapIter (some rm) clock seen clock) ∧ w.heap[rm]? = some (.map ents clock) ∧ own r = l ∧ own rm = l ∧ L.R r = none ∧ L.R rm = none ∧ ItrE L g cur left ents seen clock
  | .loop st pend ρ f N ps asg body => ∃ r tmps df, L.mp l = some r ∧ w.heap[r]? = some (.loop { state := st, pending := pend, fn := f, tmps := tmps, params := ps, assign := asg, body := body, defers := df }) ∧ own r = l ∧ L.R r = none ∧ tmps.size = N ∧ ∀ t, V L (look ρ t) (tmps.getD t undef)

structure Good (L : Link) (h : AHeap) (n : Nat) (w : World) : Prop where
  obs : ∃ (own : Nat → Nat) (gh : Gh), ∀ l ob, h l = some ob → ObRel L own gh l w ob
  ro : ∀ b o, L.R b = some o → w.heap[b]? = some o
  fresh : Fresh L n
  env : L.env.Ok w

theorem ObRel.mono {L L' : Link} {own : Nat → Nat} {gh : Gh} {l : Nat} {w : World} {ob : AOb} (h : Ext L L') (hR : L'.R = L.R) (hv : ∀ v', L.pl l v' = none → L'.pl l v' = none) (hr : ObRel L own gh l w ob) : ObRel L' own gh l w ob := by
  cases ob with
  | cells v sz rows =>
    obtain ⟨h1, h2⟩ := hr
    refine ⟨fun v' hlt => hv v' (h1 v' hlt), ?_⟩
    rcases h2 with ⟨h2, h3⟩ | ⟨b, o, cap, c, e, h2, h3, h4, h5, h6, h7, h8⟩
    · exact .inl ⟨h.pl _ _ _ h2, h3⟩
    · exact .inr ⟨b, o, cap, c, e, h.pl _ _ _ h2, h3, h4, by rw [hR]; exact h5, h6, h7, h8.mono h⟩
  | map pin agg kn es =>
    obtain ⟨r, ents, clock, h1, h2, h3, h4, h5, h6⟩ := hr
    exact ⟨r, ents, clock, h.mp _ _ h1, h2, h3, by rw [hR]; exact h4, h5.mono h, h6⟩
  | itr g cur left =>
    obtain ⟨r, rm, ents, clock, seen, h1, h2, h3, h4, h5, h6, h7, h8⟩ := hr
    exact ⟨r, rm, ents, clock, seen, h.mp _ _ h1, h2, h3, h4, h5, by rw [hR]; exact h6, by rw [hR]; exact h7, h8.mono h⟩
  | loop st pend ρ f N ps asg body =>
    obtain ⟨r, tmps, df, h1, h2, h3, h4, h5, h6⟩ := hr
    exact ⟨r, tmps, df, h.mp _ _ h1, h2, h3, by rw [hR]; exact h4, h5, fun t => (h6 t).mono h⟩

/-- The blocks of the named objects and the read-only ones stay: so does the tie. -/
theorem ObRel.world {L : Link} {own own' : Nat → Nat} {gh : Gh} {l : Nat} {w w' : World} {ob : AOb} (hw : ∀ b o, own b = l → w.heap[b]? = some o → w'.heap[b]? = some o ∧ own' b = l) (hr : ObRel L own gh l w ob) : ObRel L own' gh l w' ob := by
  cases ob with
  | cells v sz rows =>
    obtain ⟨h1, h2⟩ := hr
    refine ⟨h1, ?_⟩
    rcases h2 with ⟨h2, h3⟩ | ⟨b, o, cap, c, e, h2, h3, h4, h5, h6, h7, h8⟩
    · exact .inl ⟨h2, h3⟩
    · exact .inr ⟨b, o, cap, c, e, h2, (hw b _ h4 h3).1, (hw b _ h4 h3).2, h5, h6, h7, h8⟩
  | map pin agg kn es =>
    obtain ⟨r, ents, clock, h1, h2, h3, h4, h5, h6⟩ := hr
    exact ⟨r, ents, clock, h1, (hw r _ h3 h2).1, (hw r _ h3 h2).2, h4, h5, h6⟩
  | itr g cur left =>
    obtain ⟨r, rm, ents, clock, seen, h1, h2, h3, h4, h5, h6, h7, h8⟩ := hr
    exact ⟨r, rm, ents, clock, seen, h1, (hw r _ h4 h2).1, (hw rm _ h5 h3).1, (hw r _ h4 h2).2, (hw rm _ h5 h3).2, h6, h7, h8⟩
  | loop st pend ρ f N ps asg body =>
    obtain ⟨r, tmps, df, h1, h2, h3, h4, h5, h6⟩ := hr
    exact ⟨r, tmps, df, h1, (hw r _ h3 h2).1, (hw r _ h3 h2).2, h4, h5, h6⟩

theorem Good.lt {L : Link} {h : AHeap} {n : Nat} {w : World} (hg : Good L h n w) {l : Nat} {ob : AOb} (hl : h l = some ob) : l < n := by
  obtain ⟨own, gh, ho⟩ := hg.obs
  have := ho l ob hl
  rcases Nat.lt_or_ge l n with h' | h'
  · exact h'
  · have hf := hg.fresh l h'
    cases ob with
    | cells v sz rows =>
      rcases this.2 with ⟨h2, _⟩ | ⟨b, o, cap, c, e, h2, _⟩ <;> rw [hf.1 v] at h2 <;> cases h2
    | map pin agg kn es => obtain ⟨r, ents, clock, h1, _⟩ := this; rw [hf.2] at h1; cases h1
    | itr g cur left => obtain ⟨r, rm, ents, clock, seen, h1, _⟩ := this; rw [hf.2] at h1; cases h1
    | loop => obtain ⟨r, tmps, df, h1, _⟩ := this; rw [hf.2] at h1; cases h1

theorem Good.out {L : Link} {h : AHeap} {n : Nat} {w : World} (hg : Good L h n w) {l : Nat} (hl : n ≤ l) : h l = none := by
  cases ho : h l with
  | none => rfl
  | some ob => have := hg.lt ho; omega

theorem Env.Ok.drew {E : Env} {w : World} (h : E.Ok w) : E.Ok w.drew := ⟨h.os, h.tape, h.out, h.fz⟩
theorem Good.drew {L : Link} {h : AHeap} {n : Nat} {w : World} (hg : Good L h n w) : Good L h n w.drew := by
  obtain ⟨own, gh, ho⟩ := hg.obs
  exact ⟨⟨own, gh, fun l ob hl => (ho l ob hl).world fun b o e hb => ⟨hb, e⟩⟩, hg.ro, hg.fresh, hg.env.drew⟩

theorem Env.Ok.alloc {E : Env} {w : World} (h : E.Ok w) (o : Obj) (ho : ∀ c e z, o = .cells c e z → z = (0, 0)) : E.Ok (w.alloc o) :=
  ⟨h.os, h.tape, h.out, fun b c e z hb hc => by
    unfold World.alloc at hc
    rw [Array.getElem?_push] at hc
    split at hc
    · injection hc with hc; exact ho c e z hc
    · exact h.fz b c e z hb hc⟩
theorem Env.Ok.put {E : Env} {w w' : World} (h : E.Ok w) (r : Nat) (o : Obj) (ho : ∀ c e z, o = .cells c e z → z = (0, 0)) (h1 : w'.os = w.os) (h2 : w'.tape = w.tape) (h3 : w'.output = w.output) (h4 : w'.heap = w.heap.setIfInBounds r o) : E.Ok w' :=
  ⟨h1.trans h.os, h2.trans h.tape, h3.trans h.out, fun b c e z hb hc => by
    rw [h4, Array.getElem?_setIfInBounds] at hc
    split at hc
    · split at hc
      · injection hc with hc; exact ho c e z hc
      · cases hc
    · exact h.fz b c e z hb hc⟩
theorem Env.Ok.setCell {E : Env} {w : World} (h : E.Ok w) (a : Addr) (v : Value) : E.Ok (w.setCell a v) :=
  ⟨h.os, h.tape, h.out, fun b c e z hb hc => by
    simp only [World.setCell, Array.getElem?_modify] at hc
    split at hc
    · cases hw : w.heap[b]? with
      | none => rw [hw] at hc; cases hc
      | some o =>
        rw [hw] at hc
        cases o with
        | cells c' e' z' =>
          simp only [Option.map_some, Option.some.injEq] at hc
          have hz : z = z' := by
            split at hc <;> (injection hc with _ _ hc; exact hc.symm)
          rw [hz]
          exact h.fz b c' e' z' hb hw
        | _ => simp at hc
    · exact h.fz b c e z hb hc⟩
theorem Env.Ok.setCells {E : Env} : ∀ (vs : List Value) (w : World) (b o : Nat), E.Ok w → E.Ok (w.setCells b o vs)
  | [], _, _, _, h => h
  | _ :: r, _, b, o, h => by rw [World.setCells]; exact Env.Ok.setCells r _ b (o + 1) (h.setCell _ _)
theorem heap_alloc_lt (w : World) (o : Obj) {b : Nat} {x : Obj} (h : w.heap[b]? = some x) : (w.alloc o).heap[b]? = some x := by
  have hb : b < w.heap.size := by
    rcases Nat.lt_or_ge b w.heap.size with h' | h'
    · exact h'
    · rw [Array.getElem?_eq_none h'] at h; cases h
  unfold World.alloc
  rw [Array.getElem?_push, if_neg (by omega)]
  exact h
theorem heap_alloc_at (w : World) (o : Obj) : (w.alloc o).heap[w.heap.size]? = some o := by
  unfold World.alloc
  rw [Array.getElem?_push, if_pos rfl]
theorem R_lt {L : Link} {h : AHeap} {n : Nat} {w : World} (hg : Good L h n w) : L.R w.heap.size = Option.none := by
  cases hr : L.R w.heap.size with
  | none => rfl
  | some o => have := hg.ro _ _ hr; rw [Array.getElem?_eq_none (Nat.le_refl _)] at this; cases this

def Link.put (L : Link) (l v : Nat) (p : Place) : Link := { L with pl := fun k u => if k = l ∧ u = v then some p else L.pl k u }
theorem Link.put_same (L : Link) (l v p) : (L.put l v p).pl l v = some p := by simp [Link.put]
theorem Link.ext_put {L : Link} {l v : Nat} (h : L.pl l v = Option.none) (p : Place) : Ext L (L.put l v p) :=
  ⟨rfl, fun _ _ h => h, fun _ _ _ => rfl, fun k u q hk => by
    simp only [Link.put]
    split
    · rename_i e; rw [e.1, e.2, h] at hk; cases hk
    · exact hk, fun _ _ h => h⟩

/-- A new block of rows, under the next name. -/
theorem Good.alloc {L : Link} {h : AHeap} {n : Nat} {w : World} (hg : Good L h n w) (c : Array Value) (e : TypeId) (sz cap : Nat) (rows : List (List AV)) (hc : cap * sz ≤ c.size) (hl : rows.length ≤ cap)
    (hr : RowsAt L c 0 sz rows) :
    ∃ L', Ext L L' ∧ L'.R = L.R ∧ L'.pl n 0 = some (.at w.heap.size 0 sz cap) ∧ Good L' (upd h n (some (.cells 0 sz rows))) (n + 1) (w.alloc (.cells c e)) := by
  have hx : Ext L (L.put n 0 (.at w.heap.size 0 sz cap)) := Link.ext_put ((hg.fresh n (Nat.le_refl _)).1 0) _
  refine ⟨L.put n 0 (.at w.heap.size 0 sz cap), hx, rfl, Link.put_same _ _ _ _, ?_, ?_, ?_, hg.env.alloc _ fun _ _ _ e => by injection e with _ _ e; exact e.symm⟩
  · obtain ⟨own, gh, ho⟩ := hg.obs
    refine ⟨fun b => if b = w.heap.size then n else own b, gh, fun l ob hl => ?_⟩
    simp only [upd] at hl
    split at hl
    · rename_i e1
      subst e1
      cases hl
      refine ⟨fun v' hv' => ?_, .inr ⟨w.heap.size, 0, cap, c, e, Link.put_same _ _ _ _, heap_alloc_at w _, by simp, (R_lt hg : L.R _ = Option.none), by omega, by assumption, hr.mono hx⟩⟩
      simp only [Link.put]
      rw [if_neg (by omega)]
      exact (hg.fresh l (Nat.le_refl _)).1 v'
    · rename_i e1
      have h1 := (ho l ob hl).mono hx rfl (fun v' hv' => by simp only [Link.put]; rw [if_neg (by omega)]; exact hv')
      refine h1.world fun b o eb hb => ⟨heap_alloc_lt w _ hb, ?_⟩
      have hb' : b < w.heap.size := by
        rcases Nat.lt_or_ge b w.heap.size with h' | h'
        · exact h'
        · rw [Array.getElem?_eq_none h'] at hb; cases hb
      show (if b = w.heap.size then n else own b) = l
      rw [if_neg (by omega)]; exact eb
  · exact fun b o hb => heap_alloc_lt w _ (hg.ro b o hb)
  · intro l hl
    have := hg.fresh l (by omega)
    exact ⟨fun v => by simp only [Link.put]; rw [if_neg (by omega)]; exact this.1 v, this.2⟩

/-! ### Cells that are set -/
def setL (c : Array Value) : Nat → List Value → Array Value
  | _, [] => c
  | o, v :: r => setL (c.setIfInBounds o v) (o + 1) r
theorem size_setL : ∀ (vs : List Value) (c : Array Value) (o : Nat), (setL c o vs).size = c.size
  | [], c, o => rfl
  | v :: r, c, o => by rw [setL, size_setL r]; simp
theorem getD_setL : ∀ (vs : List Value) (c : Array Value) (o k : Nat) (d : Value), o + vs.length ≤ c.size → (setL c o vs).getD k d = if o ≤ k ∧ k < o + vs.length then vs.getD (k - o) d else c.getD k d
  | [], c, o, k, d, _ => by rw [setL, if_neg]; simp only [List.length_nil]; omega
  | v :: r, c, o, k, d, h => by
    simp only [List.length_cons] at h
    rw [setL, getD_setL r _ (o + 1) k d (by simp; omega)]
    by_cases h1 : k = o
    · subst h1
      rw [if_neg (by omega), if_pos (by simp)]
      simp [Array.getD_eq_getD_getElem?, Array.getElem?_setIfInBounds]
      rw [if_pos (by omega)]; rfl
    · by_cases h2 : o + 1 ≤ k ∧ k < o + 1 + r.length
      · rw [if_pos h2, if_pos (by simp; omega)]
        obtain ⟨m, rfl⟩ : ∃ m, k = o + 1 + m := ⟨k - (o + 1), by omega⟩
        rw [show o + 1 + m - (o + 1) = m by omega, show o + 1 + m - o = m + 1 by omega]
        simp
      · rw [if_neg h2, if_neg (by simp; omega)]
        simp [Array.getD_eq_getD_getElem?, Array.getElem?_setIfInBounds]
        rw [if_neg (by omega)]
theorem heap_setCell (w : World) (b o : Nat) (v : Value) (c : Array Value) (e : TypeId) (fz : Nat × Nat) (h : w.heap[b]? = some (.cells c e fz)) : (w.setCell ⟨b, o, none⟩ v).heap[b]? = some (.cells (c.setIfInBounds o v) e fz) := by
  simp only [World.setCell, Array.getElem?_modify, h]
  simp
theorem heap_setCell_ne (w : World) (b o : Nat) (v : Value) {b' : Nat} (h : b' ≠ b) : (w.setCell ⟨b, o, none⟩ v).heap[b']? = w.heap[b']? := by
  simp only [World.setCell, Array.getElem?_modify]
  rw [if_neg (fun e => h e.symm)]
theorem heap_setCells : ∀ (vs : List Value) (w : World) (b o : Nat) (c : Array Value) (e : TypeId) (fz : Nat × Nat), w.heap[b]? = some (.cells c e fz) → (w.setCells b o vs).heap[b]? = some (.cells (setL c o vs) e fz)
  | [], w, b, o, c, e, fz, h => h
  | v :: r, w, b, o, c, e, fz, h => by rw [World.setCells, setL]; exact heap_setCells r _ b (o + 1) _ e fz (heap_setCell w b o v c e fz h)
theorem heap_setCells_ne : ∀ (vs : List Value) (w : World) (b o : Nat) {b' : Nat}, b' ≠ b → (w.setCells b o vs).heap[b']? = w.heap[b']?
  | [], w, b, o, b', h => rfl
  | v :: r, w, b, o, b', h => by rw [World.setCells, heap_setCells_ne r _ b (o + 1) h, heap_setCell_ne w b o v h]

theorem cell?_of_heap {w : World} {b o : Nat} {c : Array Value} {e : TypeId} {fz : Nat × Nat} (h : w.heap[b]? = some (.cells c e fz)) : w.cell? ⟨b, o, none⟩ = c[o]? := by
  simp [World.cell?, h]
theorem frozen?_of_heap {w : World} {b o : Nat} {c : Array Value} {e : TypeId} (h : w.heap[b]? = some (.cells c e (0, 0))) : w.frozen? ⟨b, o, none⟩ = false := by
  simp [World.frozen?, h]
theorem cell?_of_R {L : Link} {h : AHeap} {n : Nat} {w : World} (hg : Good L h n w) {b o : Nat} {v : Value} (hc : cellR L.Rd b o = some v) : w.cell? ⟨b, o, none⟩ = some v := by
  replace hc : cellR L.R b o = some v := cellR_mono (fun b o hb => by
    unfold Link.Rd at hb
    split at hb
    · cases hb
    · exact hb) hc
  unfold cellR at hc
  cases hb : L.R b with
  | none => rw [hb] at hc; cases hc
  | some ob =>
    have := hg.ro b ob hb
    rw [hb] at hc
    cases ob <;> simp at hc
    simp [World.cell?, this, hc]

def putAt (row : List AV) (off : Nat) (vs : List AV) : List AV := row.take off ++ vs ++ row.drop (off + vs.length)
theorem putAt_length {row : List AV} {off : Nat} {vs : List AV} (h : off + vs.length ≤ row.length) : (putAt row off vs).length = row.length := by
  simp [putAt]; omega
theorem putAt_get {row : List AV} {off : Nat} {vs : List AV} (h : off + vs.length ≤ row.length) (j : Nat) : (putAt row off vs)[j]? = if off ≤ j ∧ j < off + vs.length then vs[j - off]? else row[j]? := by
  simp only [putAt, List.append_assoc]
  rw [List.getElem?_append]
  simp only [List.length_take, Nat.min_eq_left (show off ≤ row.length by omega)]
  by_cases h1 : j < off
  · rw [if_pos h1, if_neg (by omega), List.getElem?_take, if_pos h1]
  · rw [if_neg h1, List.getElem?_append]
    by_cases h2 : j - off < vs.length
    · rw [if_pos h2, if_pos (by omega)]
    · rw [if_neg h2, if_neg (by omega), List.getElem?_drop]
      congr 1; omega

theorem row_lt {i r sz m : Nat} (h : i < r) : i * sz + sz ≤ r * sz := by
  have := Nat.mul_le_mul_right sz (Nat.succ_le_of_lt h)
  rw [Nat.succ_mul] at this; exact this

theorem Good.szeq {L : Link} {h : AHeap} {n : Nat} {w : World} (hg : Good L h n w) {l v sz : Nat} {rows : List (List AV)} (hl : h l = some (.cells v sz rows)) {b o sz' cap : Nat} (hp : L.pl l v = some (.at b o sz' cap)) : sz' = sz := by
  obtain ⟨own, gh, ho⟩ := hg.obs
  obtain ⟨_, hob⟩ := ho l _ hl
  rcases hob with ⟨h2, _⟩ | ⟨b', o', cap', c, e, h2, _⟩
  · rw [hp] at h2; cases h2
  · rw [hp] at h2; cases h2; rfl

/-- A store into a row of a named object. -/
theorem Good.store {L : Link} {h : AHeap} {n : Nat} {w : World} (hg : Good L h n w) {l v sz : Nat} {rows : List (List AV)} (hl : h l = some (.cells v sz rows)) {b o cap : Nat} (hp : L.pl l v = some (.at b o sz cap))
    {i off : Nat} {row : List AV} (hi : rows[i]? = some row) (xs : List AV) (us : List Value) (hlen : us.length = xs.length) (hfit : off + xs.length ≤ row.length)
    (hv : ∀ j x, xs[j]? = some x → V L x (us.getD j undef)) (h1 : ∀ u, u ∈ us → u.oneCell' = true) :
    (∀ j, j < us.length → (w.cell? ⟨b, o + i * sz + off + j, none⟩).isSome = true ∧ w.frozen? ⟨b, o + i * sz + off + j, none⟩ = false) ∧
    Good L (upd h l (some (.cells v sz (rows.set i (putAt row off xs))))) n (w.setCells b (o + i * sz + off) us) := by
  obtain ⟨own, gh, ho⟩ := hg.obs
  have hob := ho l _ hl
  obtain ⟨hv1, hob⟩ := hob
  rcases hob with ⟨h2, _⟩ | ⟨b', o', cap', c, e, h2, h3, h4, h5, h6, h7, h8⟩
  · rw [hp] at h2; cases h2
  rw [hp] at h2
  cases h2
  have hil : i < rows.length := (List.getElem?_eq_some_iff.1 hi).1
  have hrl : row.length = sz := h8.1 row (List.mem_of_getElem? hi)
  have hmul := row_lt (sz := sz) (m := 0) (show i < cap by omega)
  have hin : o + i * sz + off + us.length ≤ c.size := by omega
  refine ⟨fun j hj => ⟨?_, ?_⟩, ?_, ?_, hg.fresh, hg.env.setCells _ _ _ _⟩
  · rw [cell?_of_heap h3]; simp; omega
  · exact frozen?_of_heap h3
  · refine ⟨own, gh, fun k ob hk => ?_⟩
    simp only [upd] at hk
    split at hk
    · rename_i e1
      subst e1
      cases hk
      refine ⟨hv1, .inr ⟨b, o, cap, setL c (o + i * sz + off) us, e, hp, heap_setCells us w b _ c e _ h3, h4, h5, by rw [size_setL]; exact h6, by simp; omega, ?_, ?_⟩⟩
      · intro r hr
        rcases List.mem_or_eq_of_mem_set hr with h' | h'
        · exact h8.1 r h'
        · rw [h', putAt_length hfit, hrl]
      · intro i' j' row' x hi' hj'
        rw [getD_setL _ _ _ _ _ hin]
        simp only [List.getElem?_set, hil, if_true] at hi'
        have hj's : j' < sz := by
          have : j' < row'.length := (List.getElem?_eq_some_iff.1 hj').1
          split at hi'
          · cases hi'; rw [putAt_length hfit, hrl] at this; exact this
          · rw [h8.1 row' (List.mem_of_getElem? hi')] at this; exact this
        split at hi'
        · rename_i ei
          subst ei
          cases hi'
          rw [putAt_get hfit] at hj'
          by_cases hc : off ≤ j' ∧ j' < off + xs.length
          · rw [if_pos hc] at hj'
            rw [if_pos (by omega), show o + i * sz + j' - (o + i * sz + off) = j' - off by omega]
            refine ⟨hv _ _ hj', ?_⟩
            have : j' - off < us.length := by omega
            rw [List.getD_eq_getElem?_getD, List.getElem?_eq_getElem this]
            exact h1 _ (List.getElem_mem this)
          · rw [if_neg hc] at hj'
            rw [if_neg (by omega)]
            exact h8.2 i j' row x hi hj'
        · rename_i ei
          rw [if_neg]
          · exact h8.2 i' j' row' x hi' hj'
          · have hi'l : i' < rows.length := (List.getElem?_eq_some_iff.1 hi').1
            rcases Nat.lt_or_gt_of_ne ei with h' | h'
            · have := row_lt (sz := sz) (m := 0) h'; omega
            · have := row_lt (sz := sz) (m := 0) h'; omega
    · rename_i e1
      refine (ho k ob hk).world fun b' o' eb hb => ⟨?_, eb⟩
      rw [heap_setCells_ne _ _ _ _ (fun e => e1 (by rw [← eb, e, h4]))]
      exact hb
  · intro b' o' hb
    rw [heap_setCells_ne _ _ _ _ (fun e => by rw [e, h5] at hb; cases hb)]
    exact hg.ro b' o' hb

/-- What a row of a named object holds. -/
theorem Good.row {L : Link} {h : AHeap} {n : Nat} {w : World} (hg : Good L h n w) {l v sz : Nat} {rows : List (List AV)} (hl : h l = some (.cells v sz rows)) {b o cap : Nat} (hp : L.pl l v = some (.at b o sz cap))
    {i : Nat} {row : List AV} (hi : rows[i]? = some row) : row.length = sz ∧ ∃ f : Nat → Value, ∀ j x, row[j]? = some x → w.cell? ⟨b, o + i * sz + j, none⟩ = some (f j) ∧ V L x (f j) ∧ (f j).oneCell' = true := by
  obtain ⟨own, gh, ho⟩ := hg.obs
  obtain ⟨_, hob⟩ := ho l _ hl
  rcases hob with ⟨h2, _⟩ | ⟨b', o', cap', c, e, h2, h3, h4, h5, h6, h7, h8⟩
  · rw [hp] at h2; cases h2
  rw [hp] at h2
  cases h2
  have hil : i < rows.length := (List.getElem?_eq_some_iff.1 hi).1
  have hrl : row.length = sz := h8.1 row (List.mem_of_getElem? hi)
  refine ⟨hrl, fun j => c.getD (o + i * sz + j) undef, fun j x hj => ⟨?_, (h8.2 i j row x hi hj).1, (h8.2 i j row x hi hj).2⟩⟩
  have hmul := row_lt (sz := sz) (m := 0) (show i < cap by omega)
  have hjs : j < sz := by have := (List.getElem?_eq_some_iff.1 hj).1; omega
  rw [cell?_of_heap h3]
  have : o + i * sz + j < c.size := by omega
  simp [Array.getD_eq_getD_getElem?, Array.getElem?_eq_getElem this]

/-- A named object under its next version, at a place of its own block or of a new one. -/
theorem Good.rever {L : Link} {h : AHeap} {n : Nat} {w w' : World} (hg : Good L h n w) {l v sz : Nat} {rows : List (List AV)} (hl : h l = some (.cells v sz rows)) (rows' : List (List AV)) (p : Place)
    (hp : (p = .nil ∧ rows' = []) ∨ ∃ b o cap c e, p = .at b o sz cap ∧ w'.heap[b]? = some (.cells c e (0, 0)) ∧ L.R b = none ∧ o + cap * sz ≤ c.size ∧ rows'.length ≤ cap ∧ RowsAt L c o sz rows' ∧ (w.heap.size ≤ b ∨ ∃ o' cap', L.pl l v = some (.at b o' sz cap')))
    (hw : ∀ k ob, (∀ o' cap', L.pl l v ≠ some (.at k o' sz cap')) → w.heap[k]? = some ob → w'.heap[k]? = some ob) (henv : L.env.Ok w') :
    ∃ L', Ext L L' ∧ L'.R = L.R ∧ L'.pl l (v + 1) = some p ∧ Good L' (upd h l (some (.cells (v + 1) sz rows'))) n w' := by
  obtain ⟨own, gh, ho⟩ := hg.obs
  obtain ⟨hv1, hob⟩ := ho l _ hl
  have hx : Ext L (L.put l (v + 1) p) := Link.ext_put (hv1 (v + 1) (by omega)) p
  have hown : ∀ k o' cap', L.pl l v = some (.at k o' sz cap') → own k = l ∧ L.R k = none := fun k o' cap' hk => by
    rcases hob with ⟨h2, _⟩ | ⟨b, o, cap, c, e, h2, h3, h4, h5, _⟩
    · rw [hk] at h2; cases h2
    · rw [hk] at h2; cases h2; exact ⟨h4, h5⟩
  have hblk : ∀ b, (w.heap.size ≤ b ∨ ∃ o' cap', L.pl l v = some (.at b o' sz cap')) → ∀ k ob, own k ≠ l → w.heap[k]? = some ob → k ≠ b := fun b hb k ob hk hkb e => by
    subst e
    rcases hb with hb | ⟨o', cap', hb⟩
    · rw [Array.getElem?_eq_none hb] at hkb; cases hkb
    · exact hk (hown _ _ _ hb).1
  refine ⟨L.put l (v + 1) p, hx, rfl, Link.put_same _ _ _ _, ⟨?_, ?_, fun k hk => ?_, henv⟩⟩
  · rcases hp with ⟨hp, hr⟩ | ⟨b, o, cap, c, e, hp, q1, q2, q3, q4, q5, q6⟩
    · refine ⟨own, gh, fun k ob hk => ?_⟩
      simp only [upd] at hk
      split at hk
      · rename_i e1
        subst e1
        cases hk
        refine ⟨fun v' hv' => ?_, .inl ⟨by rw [← hp]; exact Link.put_same _ _ _ _, hr⟩⟩
        simp only [Link.put]
        rw [if_neg (by omega)]
        exact hv1 v' (by omega)
      · rename_i e1
        refine ((ho k ob hk).mono hx rfl (fun v' hv' => by simp only [Link.put]; rw [if_neg (by omega)]; exact hv')).world fun b' o' eb hb => ⟨hw b' o' (fun o'' cap'' hc => ?_) hb, eb⟩
        exact e1 (by rw [← eb]; exact (hown _ _ _ hc).1)
    · refine ⟨fun x => if x = b then l else own x, gh, fun k ob hk => ?_⟩
      simp only [upd] at hk
      split at hk
      · rename_i e1
        subst e1
        cases hk
        refine ⟨fun v' hv' => ?_, .inr ⟨b, o, cap, c, e, by rw [← hp]; exact Link.put_same _ _ _ _, q1, by simp, q2, q3, q4, q5.mono hx⟩⟩
        simp only [Link.put]
        rw [if_neg (by omega)]
        exact hv1 v' (by omega)
      · rename_i e1
        refine ((ho k ob hk).mono hx rfl (fun v' hv' => by simp only [Link.put]; rw [if_neg (by omega)]; exact hv')).world fun b' o' eb hb => ⟨hw b' o' (fun o'' cap'' hc => ?_) hb, ?_⟩
        · exact e1 (by rw [← eb]; exact (hown _ _ _ hc).1)
        · show (if b' = b then l else own b') = k
          rw [if_neg (hblk b q6 b' o' (by rw [eb]; exact e1) hb)]; exact eb
  · intro b' o' hb
    refine hw b' o' (fun o'' cap'' hc => ?_) (hg.ro b' o' hb)
    have : L.R b' = some o' := hb
    rw [(hown _ _ _ hc).2] at this; cases this
  · have := hg.fresh k hk
    have hlt := hg.lt hl
    exact ⟨fun v' => by simp only [Link.put]; rw [if_neg (by omega)]; exact this.1 v', this.2⟩

end Go.AM
