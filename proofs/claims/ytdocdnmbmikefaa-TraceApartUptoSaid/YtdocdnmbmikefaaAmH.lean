/- An abstract machine over the model: what is shown of a call in an empty memory holds in any; what a call has made may be read only from then on. -/
import Derived.Test.YtdocdnmbmikefaaAmY
set_option linter.unusedVariables false
set_option linter.unusedSimpArgs false
namespace Go.AM

def allS {α : Type} : List (Option α) → Option (List α)
  | [] => some []
  | none :: _ => none
  | some x :: r => match allS r with
    | some l => some (x :: l)
    | none => none
theorem allS_spec {α : Type} : ∀ {l : List (Option α)} {m : List α}, allS l = some m → m.length = l.length ∧ ∀ (i : Nat) x, m[i]? = some x → l[i]? = some (some x)
  | [], m, h => by cases h; exact ⟨rfl, fun i x hx => by simp at hx⟩
  | none :: r, m, h => by cases h
  | some y :: r, m, h => by
    simp only [allS] at h
    split at h
    · rename_i l hl
      cases h
      obtain ⟨h1, h2⟩ := allS_spec hl
      refine ⟨by simp [h1], fun i x hx => ?_⟩
      cases i with
      | zero => simp at hx ⊢; exact hx
      | succ i => simp at hx ⊢; exact h2 i x hx
    · cases h

/-- A value's data, out of memory. -/
def fzD : Nat → AHeap → AV → Option D
  | _, _, .d .nilS => some (.ro [])
  | _, _, .d x => some x
  | k + 1, h, .arr l v i len => match h l with
    | some (.cells v' _ rows) => if v = v' ∧ i + len ≤ rows.length then
        match allS (((rows.drop i).take len).map fun row => allS (row.map (fzD k h))) with
        | some xs => some (.ro xs)
        | none => none
      else none
    | _ => none
  | _, _, _ => none
def fz1 (k : Nat) (h : AHeap) : AV → Option AV
  | .agg cs => match allS (cs.map (fzD k h)) with
    | some l => some (.agg (l.map .d))
    | none => none
  | x => match fzD k h x with
    | some y => some (.d y)
    | none => none
def fz (k : Nat) (h : AHeap) : AV → Option AV
  | .tup vs => match allS (vs.map (fz1 k h)) with
    | some l => some (.tup l)
    | none => none
  | x => fz1 k h x

def Link.all (L : Link) (w : World) : Link :=
  { L with R := fun b => match L.R b with | some o => some o | none => w.heap[b]?, fo := fun b => (L.R b).isSome && L.fo b }
theorem Link.all_Rd (L : Link) (w : World) : ∀ b o, L.Rd b = some o → (L.all w).Rd b = some o := fun b o hb => by
  unfold Link.Rd at hb ⊢
  split at hb
  · cases hb
  · rename_i hf
    simp only [Link.all, hb]
    simp [hf]
theorem Link.all_new {L : Link} {w : World} {b : Nat} {o : Obj} (h1 : L.R b = none) (h2 : w.heap[b]? = some o) : (L.all w).Rd b = some o := by
  unfold Link.Rd
  simp [Link.all, h1, h2]

theorem fzD_sound {L : Link} {h : AHeap} {n : Nat} {w : World} (hg : Good L h n w) : ∀ (k : Nat) (v : AV) (x : D) (u : Value), fzD k h v = some x → V L v u → DV (L.all w).Rd x u := by
  have hdd : ∀ (k : Nat) (x0 x : D) (u : Value), fzD k h (.d x0) = some x → V L (.d x0) u → DV (L.all w).Rd x u := fun k x0 x u hf hv => by
    cases x0 with
    | nilS => cases k <;> (simp only [fzD] at hf; cases hf; rw [V_nilS hv]; exact .roN)
    | _ => cases k <;> (simp only [fzD] at hf; cases hf; cases hv with | d hd => exact hd.mono (Link.all_Rd L w))
  intro k
  induction k with
  | zero =>
    intro v x u hf hv
    cases v with
    | d x0 => exact hdd _ _ _ _ hf hv
    | _ => simp only [fzD] at hf; cases hf
  | succ k ih =>
    intro v x u hf hv
    cases v with
    | d x0 => exact hdd _ _ _ _ hf hv
    | arr l ver i len =>
      simp only [fzD] at hf
      split at hf
      · rename_i v' sz rows hl
        split at hf
        · rename_i hc
          obtain ⟨hver, hlen⟩ := hc
          subst hver
          split at hf
          · rename_i xs hxs
            cases hf
            obtain ⟨q1, q2⟩ := allS_spec hxs
            have hxl : xs.length = len := by
              rw [q1]; simp; omega
            obtain ⟨own, gh, ho⟩ := hg.obs
            obtain ⟨_, hob⟩ := ho l _ hl
            cases hv with
            | arrN hp =>
              have : xs = [] := List.eq_nil_of_length_eq_zero hxl
              subst this; exact .roN
            | arrE i a hp =>
              have : xs = [] := List.eq_nil_of_length_eq_zero hxl
              subst this; exact .roE _ _
            | arr _ _ c hp hlc hcc =>
              rename_i b o sz' cap
              rcases hob with ⟨h2, _⟩ | ⟨b', o', cap', cc, e, h2, h3, h4, h5, h6, h7, h8⟩
              · rw [hp] at h2; cases h2
              rw [hp] at h2
              cases h2
              have hRd : (L.all w).Rd b = some (.cells cc e (0, 0)) := Link.all_new h5 h3
              have hrow : ∀ j row', xs[j]? = some row' → ∃ row, rows[i + j]? = some row ∧ row'.length = row.length ∧ ∀ m c', row'[m]? = some c' → ∃ a, row[m]? = some a ∧ fzD k h a = some c' := fun j row' hj => by
                have := q2 j row' hj
                have hjl : j < len := by rw [← hxl]; exact (List.getElem?_eq_some_iff.1 hj).1
                rw [List.getElem?_map, List.getElem?_take, if_pos hjl, List.getElem?_drop] at this
                cases hr : rows[i + j]? with
                | none => rw [hr] at this; cases this
                | some row =>
                  rw [hr] at this
                  simp only [Option.map_some, Option.some.injEq] at this
                  obtain ⟨z1, z2⟩ := allS_spec this
                  refine ⟨row, rfl, by simpa using z1, fun m c' hm => ?_⟩
                  have := z2 m c' hm
                  rw [List.getElem?_map] at this
                  cases ha : row[m]? with
                  | none => rw [ha] at this; cases this
                  | some a => rw [ha] at this; exact ⟨a, ha, by simpa using this⟩
              have hget : ∀ k, k < cc.size → cellR (L.all w).Rd b k = some (cc.getD k undef) := fun k hk => by
                unfold cellR
                rw [hRd]
                simp [Array.getD_eq_getD_getElem?, Array.getElem?_eq_getElem hk]
              have hmul : ∀ j, j < len → o + (i + j) * sz + sz ≤ cc.size := fun j hj => by
                have := row_lt (sz := sz) (m := 0) (show i + j < cap by omega)
                omega
              have := @DV.ro (L.all w).Rd xs b (o + i * sz) c sz (fun j m => cc.getD (o + (i + j) * sz + m) undef) (by omega) (fun row' hm => by
                  obtain ⟨j, hj⟩ := List.getElem?_of_mem hm
                  obtain ⟨row, z1, z2, _⟩ := hrow j row' hj
                  rw [z2]; exact h8.1 row (List.mem_of_getElem? z1)) (fun j m hj hm => by
                  have := hmul j (by omega)
                  rw [show o + i * sz + j * sz + m = o + (i + j) * sz + m by rw [Nat.add_mul]; omega]
                  exact hget _ (by omega)) (fun j m c' row' hj hm => by
                  obtain ⟨row, z1, z2, z3⟩ := hrow j row' hj
                  obtain ⟨a, z4, z5⟩ := z3 m c' hm
                  exact ih a c' _ z5 (h8.2 (i + j) m row a z1 z4).1)
              rw [hxl] at this
              exact this
          · cases hf
        · cases hf
      · cases hf
    | _ => simp only [fzD] at hf; cases hf

theorem fz1_sound {L L3 : Link} {h : AHeap} {n : Nat} {w : World} (hg : Good L h n w) (hR : ∀ b o v, cellR (L.all w).Rd b o = some v → cellR L3.Rd b o = some v) {k : Nat} {v y : AV} {u : Value} (hf : fz1 k h v = some y) (hv : V L v u) : V L3 y u := by
  unfold fz1 at hf
  split at hf
  · rename_i cs
    split at hf
    · rename_i l hl
      cases hf
      obtain ⟨q1, q2⟩ := allS_spec hl
      cases hv with
      | agg _ us hs hc =>
        refine .agg _ us (by rw [hs]; simp [q1]) fun j c hj => ?_
        rw [List.getElem?_map] at hj
        cases hq : l[j]? with
        | none => rw [hq] at hj; cases hj
        | some x =>
          rw [hq] at hj
          cases hj
          have := q2 j x hq
          rw [List.getElem?_map] at this
          cases ha : cs[j]? with
          | none => rw [ha] at this; cases this
          | some a =>
            rw [ha] at this
            exact .d ((fzD_sound hg k a x _ (by simpa using this) (hc j a ha)).monoC hR)
    · cases hf
  · split at hf
    · rename_i y' hy
      cases hf
      exact .d ((fzD_sound hg k _ _ _ hy hv).monoC hR)
    · cases hf
theorem fz_sound {L L3 : Link} {h : AHeap} {n : Nat} {w : World} (hg : Good L h n w) (hR : ∀ b o v, cellR (L.all w).Rd b o = some v → cellR L3.Rd b o = some v) {k : Nat} {v y : AV} {u : Value} (hf : fz k h v = some y) (hv : V L v u) : V L3 y u := by
  unfold fz at hf
  split at hf
  · rename_i vs
    split at hf
    · rename_i l hl
      cases hf
      obtain ⟨q1, q2⟩ := allS_spec hl
      cases hv with
      | tup _ us hs hc =>
        refine .tup _ us (by rw [hs]; simp [q1]) fun j c hj => ?_
        have := q2 j c hj
        rw [List.getElem?_map] at this
        cases ha : vs[j]? with
        | none => rw [ha] at this; cases this
        | some a =>
          rw [ha] at this
          exact fz1_sound hg hR (by simpa using this) (hc j a ha)
    · cases hf
  · exact fz1_sound hg hR hf hv

theorem V.toC0 {L L' : Link} (hR : ∀ b o x, cellR L.Rd b o = some x → cellR L'.Rd b o = some x) {v : AV} {u : Value} (hv : V L v u) (hs : Sc 0 v) : V L' v u := by
  refine (hv.cut hs).monoC (L := L.cut 0) ⟨hR, fun l u p h => ?_, fun l r h => ?_⟩
  · simp [Link.cut] at h
  · simp [Link.cut] at h

def nil : AHeap := fun _ => none

/-- What a call comes to in an empty memory it comes to in any. -/
theorem ACall.frame {P : Program} {f : FuncId} {args : List AV} {v : AV} (hs : ∀ x, x ∈ args → Sc 0 x) (hc : ACall P f args nil 0 (fun v' h' _ => ∃ k, fz k h' v' = some v)) {h : AHeap} {n : Nat} {K : AV → AHeap → Nat → Prop} (hk : K v h n) : ACall P f args h n K := by
  refine ⟨hc.1, fun L w xs hA hg => ?_⟩
  let L1 : Link := { env := L.env, R := fun b => w.heap[b]?, fo := fun b => !(L.Rd b).isSome, pl := fun _ _ => none, mp := fun _ => none }
  have hRd1 : ∀ b o, L.Rd b = some o → L1.Rd b = some o := fun b o hb => by
    have h1 : L.R b = some o := by
      unfold Link.Rd at hb; split at hb
      · cases hb
      · exact hb
    have h2 := hg.ro b o h1
    have h3 : L1.fo b = false := by show (!(L.Rd b).isSome) = false; rw [hb]; rfl
    show (if L1.fo b = true then none else w.heap[b]?) = some o
    rw [h3, if_neg (by simp)]; exact h2
  have hA1 : Args L1 args xs := ⟨hA.1, fun j c hj => (hA.2 j c hj).toC0 (fun _ _ _ hc => cellR_mono hRd1 hc) (hs c (List.mem_of_getElem? hj))⟩
  have hg1 : Good L1 nil 0 w := ⟨⟨fun _ => 0, fun _ => ([], 0), fun l ob hl => by cases hl⟩, fun b o hb => hb, fun l _ => ⟨fun _ => rfl, rfl⟩, hg.env⟩
  refine (hc.2 L1 w xs hA1 hg1).mono fun e w' h3 => ?_
  obtain ⟨x, v', h', n', L', q0, q1, q2, q3, q4, k, q5⟩ := h3
  let L2 : Link := { env := L.env, R := fun b => if b < w.heap.size then L.R b else (L'.all w').R b, fo := fun b => if b < w.heap.size then L.fo b else (L'.all w').fo b, pl := L.pl, mp := L.mp }
  have hlt : ∀ b o, w.heap[b]? = some o → b < w.heap.size := fun b o hb => by
    rcases Nat.lt_or_ge b w.heap.size with h' | h'
    · exact h'
    · rw [Array.getElem?_eq_none h'] at hb; cases hb
  have hold : ∀ b o, w.heap[b]? = some o → w'.heap[b]? = some o ∧ L2.R b = L.R b ∧ L2.fo b = L.fo b := fun b o hb =>
    ⟨q4.ro b o (q1.R b o hb), if_pos (hlt b o hb), if_pos (hlt b o hb)⟩
  have hx : Ext L L2 := ⟨rfl, fun b o hb => by rw [(hold b o (hg.ro b o hb)).2.1]; exact hb, fun b o hb => (hold b o (hg.ro b o hb)).2.2, fun _ _ _ h => h, fun _ _ h => h⟩
  refine ⟨x, v, h, n, L2, q0, hx, Nat.le_refl _, ?_, ?_, hk⟩
  · refine fz_sound q4 (fun b o y hc => cellR_mono (R := (L'.all w').Rd) (fun b ob hb => ?_) hc) q5 q3
    by_cases hbl : b < w.heap.size
    · have hw : w.heap[b]? = some w.heap[b] := Array.getElem?_eq_getElem hbl
      have h1 : L'.R b = some w.heap[b] := q1.R b _ hw
      have h2 : L'.fo b = L1.fo b := q1.fo b _ hw
      have h3 : (L'.all w').Rd b = if L1.fo b = true then none else some w.heap[b] := by
        unfold Link.Rd; simp [Link.all, h1, h2]
      rw [h3] at hb
      split at hb
      · cases hb
      · rename_i hf
        cases hb
        have : ¬ L.Rd b = none := by simpa [L1] using hf
        cases hq : L.Rd b with
        | none => exact absurd hq this
        | some o =>
          have h4 := hRd1 b o hq
          have : L1.Rd b = some w.heap[b] := by
            show (if L1.fo b = true then none else w.heap[b]?) = _
            rw [if_neg hf, hw]
          rw [this] at h4
          cases h4
          exact hx.Rd b _ hq
    · show (if L2.fo b = true then none else L2.R b) = some ob
      rw [show L2.fo b = (L'.all w').fo b from if_neg hbl, show L2.R b = (L'.all w').R b from if_neg hbl]
      exact hb
  · obtain ⟨own, gh, ho⟩ := hg.obs
    refine ⟨⟨own, gh, fun l ob hl => ?_⟩, fun b o hb => ?_, hg.fresh, by have := q4.env; rw [q1.env] at this; exact this⟩
    · have hob := ho l ob hl
      have hh : ∀ b o, w.heap[b]? = some o → L.R b = none → w'.heap[b]? = some o ∧ L2.R b = none := fun b o hb hR => ⟨(hold b o hb).1, by rw [(hold b o hb).2.1, hR]⟩
      cases ob with
      | cells v sz rows =>
        obtain ⟨h1, h2⟩ := hob
        refine ⟨h1, ?_⟩
        rcases h2 with ⟨h2, h3⟩ | ⟨b, o, cap, c, e, h2, h3, h4, h5, h6, h7, h8⟩
        · exact .inl ⟨h2, h3⟩
        · exact .inr ⟨b, o, cap, c, e, h2, (hh b _ h3 h5).1, h4, (hh b _ h3 h5).2, h6, h7, h8.mono hx⟩
      | map pin agg kn es =>
        obtain ⟨b, ents, clock, h1, h2, h3, h4, h5, h6⟩ := hob
        exact ⟨b, ents, clock, h1, (hh b _ h2 h4).1, h3, (hh b _ h2 h4).2, h5.mono hx, h6⟩
      | itr g cur left =>
        obtain ⟨b, rm, ents, clock, seen, h1, h2, h3, h4, h5, h6, h7, h8⟩ := hob
        exact ⟨b, rm, ents, clock, seen, h1, (hh b _ h2 h6).1, (hh rm _ h3 h7).1, h4, h5, (hh b _ h2 h6).2, (hh rm _ h3 h7).2, h8.mono hx⟩
      | loop st pend ρ f N ps asg body =>
        obtain ⟨b, tmps, df, h1, h2, h3, h4, h5, h6⟩ := hob
        exact ⟨b, tmps, df, h1, (hh b _ h2 h4).1, h3, (hh b _ h2 h4).2, h5, fun t => (h6 t).mono hx⟩
    · simp only [L2] at hb
      split at hb
      · exact (hold b o (hg.ro b o hb)).1
      · simp only [Link.all] at hb
        split at hb
        · rename_i o' ho'
          cases hb; exact q4.ro b _ ho'
        · exact hb

/-! ### Calls in the midst of an open order: what they are handed is frozen for them, what they hand back is flat -/
theorem allS_mono {α : Type} : ∀ {l l' : List (Option α)} {m : List α}, l.length = l'.length → (∀ (i : Nat) x, l[i]? = some (some x) → l'[i]? = some (some x)) → allS l = some m → allS l' = some m
  | [], [], m, _, _, h => h
  | none :: r, _, m, _, _, h => by cases h
  | some y :: r, [], m, hl, _, _ => by simp at hl
  | some y :: r, y' :: r', m, hl, hi, h => by
    have h0 := hi 0 y rfl
    simp only [List.getElem?_cons_zero, Option.some.injEq] at h0
    subst h0
    simp only [allS] at h ⊢
    split at h
    · rename_i l hr
      cases h
      rw [allS_mono (l' := r') (by simpa using hl) (fun i x hx => by have := hi (i + 1) x (by simpa using hx); simpa using this) hr]
    · cases h
  | [], _ :: _, m, hl, _, _ => by simp at hl
theorem fzD_mono {h h' : AHeap} (hh : ∀ l ob, h l = some ob → h' l = some ob) : ∀ (k : Nat) (v : AV) (x : D), fzD k h v = some x → fzD k h' v = some x := by
  intro k
  induction k with
  | zero =>
    intro v x hf
    cases v with
    | d x0 => cases x0 <;> (simp only [fzD] at hf ⊢; exact hf)
    | _ => simp only [fzD] at hf; cases hf
  | succ k ih =>
    intro v x hf
    cases v with
    | d x0 => cases x0 <;> (simp only [fzD] at hf ⊢; exact hf)
    | arr l ver i len =>
      simp only [fzD] at hf ⊢
      cases hl : h l with
      | none => rw [hl] at hf; cases hf
      | some ob =>
        rw [hl] at hf
        rw [hh l ob hl]
        cases ob with
        | cells v' sz rows =>
          simp only at hf ⊢
          split at hf
          · rename_i hc
            rw [if_pos hc]
            split at hf
            · rename_i xs hxs
              cases hf
              rw [allS_mono (by simp) (fun i y hy => ?_) hxs]
              rw [List.getElem?_map] at hy ⊢
              cases hr : ((rows.drop _).take len)[i]? with
              | none => rw [hr] at hy; cases hy
              | some row =>
                rw [hr] at hy
                simp only [Option.map_some, Option.some.injEq] at hy ⊢
                refine allS_mono (by simp) (fun j z hz => ?_) hy
                rw [List.getElem?_map] at hz ⊢
                cases ha : row[j]? with
                | none => rw [ha] at hz; cases hz
                | some a =>
                  rw [ha] at hz
                  simp only [Option.map_some, Option.some.injEq] at hz ⊢
                  exact ih a z hz
            · cases hf
          · cases hf
        | _ => cases hf
    | _ => simp only [fzD] at hf; cases hf
theorem fz1_mono {h h' : AHeap} (hh : ∀ l ob, h l = some ob → h' l = some ob) {k : Nat} {v y : AV} (hf : fz1 k h v = some y) : fz1 k h' v = some y := by
  unfold fz1 at hf ⊢
  split at hf
  · rename_i cs
    split at hf
    · rename_i l hl
      cases hf
      rw [allS_mono (by simp) (fun i y hy => ?_) hl]
      rw [List.getElem?_map] at hy ⊢
      cases ha : cs[i]? with
      | none => rw [ha] at hy; cases hy
      | some a =>
        rw [ha] at hy
        simp only [Option.map_some, Option.some.injEq] at hy ⊢
        exact fzD_mono hh k a y hy
    · cases hf
  · rename_i hne
    split at hf
    · rename_i y' hy
      cases hf
      rw [fzD_mono hh _ _ _ hy]
    · cases hf
theorem fz_mono {h h' : AHeap} (hh : ∀ l ob, h l = some ob → h' l = some ob) {k : Nat} {v y : AV} (hf : fz k h v = some y) : fz k h' v = some y := by
  unfold fz at hf ⊢
  split at hf
  · rename_i vs
    split at hf
    · rename_i l hl
      cases hf
      rw [allS_mono (by simp) (fun i y hy => ?_) hl]
      rw [List.getElem?_map] at hy ⊢
      cases ha : vs[i]? with
      | none => rw [ha] at hy; cases hy
      | some a =>
        rw [ha] at hy
        simp only [Option.map_some, Option.some.injEq] at hy ⊢
        exact fz1_mono hh hy
    · cases hf
  · rename_i hne
    exact fz1_mono hh hf
def frz (h : AHeap) (as : List AV) : Option (List AV) := allS (as.map (fz 6 h))
theorem frz_mono {h h' : AHeap} (hh : ∀ l ob, h l = some ob → h' l = some ob) {as as' : List AV} (hf : frz h as = some as') : frz h' as = some as' := by
  unfold frz at hf ⊢
  refine allS_mono (by simp) (fun i y hy => ?_) hf
  rw [List.getElem?_map] at hy ⊢
  cases ha : as[i]? with
  | none => rw [ha] at hy; cases hy
  | some a =>
    rw [ha] at hy
    simp only [Option.map_some, Option.some.injEq] at hy ⊢
    exact fz_mono hh hy
def flatD : AV → Bool
  | .d (.int _ _) => true
  | .d (.bool _) => true
  | .d (.str _) => true
  | _ => false
def flat1 : AV → Bool
  | .agg cs => cs.all flatD
  | x => flatD x
def flat : AV → Bool
  | .tup vs => vs.all flat1
  | x => flat1 x
theorem flatD_V {x : AV} (hf : flatD x = true) {L L' : Link} {u : Value} (hv : V L x u) : V L' x u := by
  unfold flatD at hf
  split at hf
  · rw [V_int hv]; exact .d (.int _ _)
  · rw [V_bool hv]; exact .d (.bool _)
  · rw [V_str hv]; exact .d (.str _)
  · cases hf
theorem flat1_V {x : AV} (hf : flat1 x = true) {L L' : Link} {u : Value} (hv : V L x u) : V L' x u := by
  unfold flat1 at hf
  split at hf
  · cases hv with
    | agg _ us hs hc => exact .agg _ us hs fun j c hj => flatD_V (List.all_eq_true.1 hf c (List.mem_of_getElem? hj)) (hc j c hj)
  · exact flatD_V hf hv
theorem flat_V {x : AV} (hf : flat x = true) {L L' : Link} {u : Value} (hv : V L x u) : V L' x u := by
  unfold flat at hf
  split at hf
  · cases hv with
    | tup _ us hs hc => exact .tup _ us hs fun j c hj => flat1_V (List.all_eq_true.1 hf c (List.mem_of_getElem? hj)) (hc j c hj)
  · exact flat1_V hf hv
theorem ACall.frz {P : Program} {f : FuncId} {as as' : List AV} {v : AV} (hc : ACall P f as' nil 0 (fun v' _ _ => v' = v)) (hv : flat v = true) {h : AHeap} {n : Nat} (hf : AM.frz h as = some as') {K : AV → AHeap → Nat → Prop} (hk : K v h n) : ACall P f as h n K := by
  refine ⟨hc.1, fun L w xs hA hg => ?_⟩
  let L1 : Link := { env := L.env, R := fun b => w.heap[b]?, fo := fun _ => false, pl := fun _ _ => none, mp := fun _ => none }
  have hRd1 : ∀ b o, (L.all w).Rd b = some o → L1.Rd b = some o := fun b o hb => by
    show (if false = true then none else w.heap[b]?) = some o
    rw [if_neg (by simp)]
    unfold Link.Rd at hb
    split at hb
    · cases hb
    · simp only [Link.all] at hb
      split at hb
      · rename_i o' ho'; cases hb; exact hg.ro b _ ho'
      · exact hb
  obtain ⟨q1, q2⟩ := allS_spec hf
  have hA1 : Args L1 as' xs := ⟨by rw [hA.1, q1]; simp, fun j c hj => by
    have := q2 j c hj
    rw [List.getElem?_map] at this
    cases ha : as[j]? with
    | none => rw [ha] at this; cases this
    | some a =>
      rw [ha] at this
      exact fz_sound hg (fun _ _ _ hc => cellR_mono hRd1 hc) (by simpa using this) (hA.2 j a ha)⟩
  have hg1 : Good L1 nil 0 w := ⟨⟨fun _ => 0, fun _ => ([], 0), fun l ob hl => by cases hl⟩, fun b o hb => hb, fun l _ => ⟨fun _ => rfl, rfl⟩, hg.env⟩
  refine (hc.2 L1 w xs hA1 hg1).mono fun e w' h3 => ?_
  obtain ⟨x, v', h', n', L', q0, q1, q2, q3, q4, rfl⟩ := h3
  have hold : ∀ b o, w.heap[b]? = some o → w'.heap[b]? = some o := fun b o hb => q4.ro b o (q1.R b o hb)
  refine ⟨x, v', h, n, L, q0, Ext.refl L, Nat.le_refl _, flat_V hv q3, ⟨?_, fun b o hb => hold b o (hg.ro b o hb), hg.fresh, by have := q4.env; rw [q1.env] at this; exact this⟩, hk⟩
  obtain ⟨own, gh, ho⟩ := hg.obs
  exact ⟨own, gh, fun l ob hl => (ho l ob hl).world fun b o e hb => ⟨hold b o hb, e⟩⟩
/-- A callee in the midst of an open order. -/
def xc (E : FuncId → List AV → Option (Prop × AV)) (f : FuncId) (as : List AV) (h : AHeap) : Option (Prop × AV) :=
  match E f as with
  | some r => some r
  | none => match AM.frz h as with
    | some as' => match E f as' with
      | some (p, v) => if flat v = true then some (p, v) else none
      | none => none
    | none => none
theorem xc_mono {E : FuncId → List AV → Option (Prop × AV)} {f : FuncId} {as : List AV} {h h' : AHeap} (hh : ∀ l ob, h l = some ob → h' l = some ob) {r : Prop × AV} (hx : xc E f as h = some r) : xc E f as h' = some r := by
  unfold xc at hx ⊢
  split at hx
  · exact hx
  · split at hx
    · rename_i as' hf; rw [frz_mono hh hf]; exact hx
    · cases hx
theorem xc_sound {C : Cx} {f : FuncId} {as : List AV} {h : AHeap} {p : Prop} {v : AV} (hx : xc C.E f as h = some (p, v)) (hp : p) (n : Nat) (K : AV → AHeap → Nat → Prop) (hk : K v h n) : ACall C.P f as h n K := by
  unfold xc at hx
  split at hx
  · rename_i r hE; cases hx; exact C.hE f as p v hE hp h n K hk
  · split at hx
    · rename_i as' hf
      split at hx
      · rename_i p' v' hE
        split at hx
        · rename_i hfl
          cases hx
          exact ACall.frz (C.hE f as' p v hE hp nil 0 _ rfl) hfl hf hk
        · cases hx
      · cases hx
    · cases hx
/-- A call that hands back data made of data. -/
def Pure (P : Program) (f : FuncId) (args : List AV) (v : AV) : Prop := ∀ (h : AHeap) (n : Nat) (K : AV → AHeap → Nat → Prop), K v h n → ACall P f args h n K
theorem Pure.of {P : Program} {f : FuncId} {args : List AV} {v : AV} (hs : ∀ x, x ∈ args → Sc 0 x) (hc : ACall P f args nil 0 (fun v' h' _ => ∃ k, fz k h' v' = some v)) : Pure P f args v := fun _ _ _ hk => ACall.frame hs hc hk
end Go.AM
