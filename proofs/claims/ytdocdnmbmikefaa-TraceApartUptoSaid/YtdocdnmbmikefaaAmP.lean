/- An abstract machine over the model: reading and writing memory, slices, numbers. -/
import Derived.Test.YtdocdnmbmikefaaAmO
set_option linter.unusedVariables false
set_option linter.unusedSimpArgs false
namespace Go.AM
section
variable {P : Program} {L : Link} {a : Act} {w : World} {o : Oper} {h : AHeap} {n : Nat} {e : Operand → AV}

theorem RowsAt.store {c : Array Value} {b sz : Nat} {rows : List (List AV)} (h8 : RowsAt L c b sz rows) {i off : Nat} {row : List AV} (hi : rows[i]? = some row) (xs : List AV) (us : List Value) (hlen : us.length = xs.length)
    (hfit : off + xs.length ≤ row.length) (hin : b + rows.length * sz ≤ c.size) (hv : ∀ j x, xs[j]? = some x → V L x (us.getD j undef)) (h1 : ∀ u, u ∈ us → u.oneCell' = true) :
    RowsAt L (setL c (b + i * sz + off) us) b sz (rows.set i (putAt row off xs)) := by
  have hil : i < rows.length := (List.getElem?_eq_some_iff.1 hi).1
  have hrl : row.length = sz := h8.1 row (List.mem_of_getElem? hi)
  have hmul := row_lt (sz := sz) (m := 0) hil
  have hin' : b + i * sz + off + us.length ≤ c.size := by omega
  refine ⟨fun r hr => ?_, fun i' j' row' x hi' hj' => ?_⟩
  · rcases List.mem_or_eq_of_mem_set hr with h' | h'
    · exact h8.1 r h'
    · rw [h', putAt_length hfit, hrl]
  · rw [getD_setL _ _ _ _ _ hin']
    simp only [List.getElem?_set, hil, if_true] at hi'
    have hj's : j' < sz := by
      have : j' < row'.length := (List.getElem?_eq_some_iff.1 hj').1
      split at hi'
      · cases hi'; rw [putAt_length hfit, hrl] at this; exact this
      · rw [h8.1 row' (List.mem_of_getElem? hi')] at this; exact this
    split at hi'
    · rename_i ei
      subst ei
      cases hi'
      rw [putAt_get hfit] at hj'
      by_cases hc : off ≤ j' ∧ j' < off + xs.length
      · rw [if_pos hc] at hj'
        rw [if_pos (by omega), show b + i * sz + j' - (b + i * sz + off) = j' - off by omega]
        refine ⟨hv _ _ hj', ?_⟩
        have : j' - off < us.length := by omega
        rw [List.getD_eq_getElem?_getD, List.getElem?_eq_getElem this]
        exact h1 _ (List.getElem_mem this)
      · rw [if_neg hc] at hj'
        rw [if_neg (by omega)]
        exact h8.2 i j' row x hi hj'
    · rename_i ei
      rw [if_neg]
      · exact h8.2 i' j' row' x hi' hj'
      · rcases Nat.lt_or_gt_of_ne ei with h' | h'
        · have := row_lt (sz := sz) (m := 0) h'; omega
        · have := row_lt (sz := sz) (m := 0) h'; omega

theorem getD_map_range (f : Nat → Value) (m j : Nat) (hj : j < m) : ((Array.range m).map f).getD j undef = f j := by
  simp [Array.getD_eq_getD_getElem?, hj]

theorem rows_made {z : Array Value} {zs : List AV} (hz : z.size = zs.length) (hv : ∀ j x, zs[j]? = some x → V L x (z.getD j undef)) (h1 : ∀ u, u ∈ z.toList → u.oneCell' = true) (k m : Nat) (hk : k * zs.length ≤ m) :
    RowsAt L ((Array.range m).map (fun i => z[i % z.size]!)) 0 zs.length (List.replicate k zs) := by
  refine ⟨fun row hr => by rw [List.eq_of_mem_replicate hr], fun i j row x hi hj => ?_⟩
  have hik : i < k := by have := (List.getElem?_eq_some_iff.1 hi).1; simpa using this
  have hrow : row = zs := List.eq_of_mem_replicate (List.mem_of_getElem? hi)
  subst hrow
  have hjl : j < row.length := (List.getElem?_eq_some_iff.1 hj).1
  have := row_lt (sz := row.length) (m := 0) hik
  rw [getD_map_range _ _ _ (by omega)]
  have hmod : (0 + i * row.length + j) % z.size = j := by
    rw [hz, Nat.zero_add, Nat.add_comm, Nat.mul_comm, Nat.add_mul_mod_self_left]
    exact Nat.mod_eq_of_lt hjl
  rw [hmod]
  have hjz : j < z.size := by omega
  have e1 : z[j]! = z.getD j undef := by simp [Array.getD_eq_getD_getElem?, hjz]
  rw [e1]
  refine ⟨hv j x hj, ?_⟩
  simp [Array.getD_eq_getD_getElem?, hjz]
  exact h1 _ (by simp)

/-! #### a slice's literal -/
def fillRows (sz : Nat) : List (List AV) → List (Nat × AV) → Option (List (List AV))
  | rows, [] => some rows
  | rows, (i, x) :: r => if (cellsOf x).length = sz ∧ i < rows.length ∧ cellsOK x = true then fillRows sz (rows.set i (cellsOf x)) r else none
theorem fillRows_rel (sz : Nat) : ∀ (parts : List (Nat × AV)) (vals : List (Nat × Value)) (rows : List (List AV)) (us : Array Value) (out : List (List AV)), parts.length = vals.length →
    (∀ (k : Nat) (p : Nat × AV) (q : Nat × Value), parts[k]? = some p → vals[k]? = some q → p.1 = q.1 ∧ V L p.2 q.2) → us.size = rows.length * sz → RowsAt L us 0 sz rows → fillRows sz rows parts = some out →
    ∃ us', Instr.fill (fun i => some (i * sz, sz)) us vals = some us' ∧ us'.size = out.length * sz ∧ out.length = rows.length ∧ RowsAt L us' 0 sz out
  | [], [], rows, us, out, _, _, hs, hr, hf => by simp only [fillRows] at hf; cases hf; exact ⟨us, rfl, hs, rfl, hr⟩
  | [], _ :: _, _, _, _, hl, _, _, _, _ => by simp at hl
  | _ :: _, [], _, _, _, hl, _, _, _, _ => by simp at hl
  | (i, x) :: r, (i', v) :: q, rows, us, out, hl, hk, hs, hr, hf => by
    obtain ⟨h1, h2⟩ := hk 0 _ _ rfl rfl
    simp only at h1 h2
    subst h1
    simp only [fillRows] at hf
    split at hf
    · rename_i hc
      obtain ⟨h3, h4, h5⟩ := hc
      obtain ⟨h6, h7, h8⟩ := h2.cellsRel h5
      have h6' : v.cells.size = sz := by rw [← h3]; exact h6
      have hi : rows[i]? = some rows[i] := List.getElem?_eq_getElem h4
      have hrl : rows[i].length = sz := hr.1 _ (List.getElem_mem h4)
      have hmul := row_lt (sz := sz) (m := 0) h4
      have hst := hr.store hi (cellsOf x) v.cells.toList (by simpa using h6) (off := 0) (by omega) (by omega) (fun j y hj => by have := h7 j y hj; simpa [Array.getD_eq_getD_getElem?, List.getD_eq_getElem?_getD] using this) h8
      have hput : putAt rows[i] 0 (cellsOf x) = cellsOf x := by
        simp only [putAt, List.take_zero, List.nil_append, Nat.zero_add]
        rw [List.drop_eq_nil_of_le (by omega), List.append_nil]
      rw [hput, show 0 + i * sz + 0 = i * sz by omega] at hst
      obtain ⟨us', h9, h10, h11, h12⟩ := fillRows_rel sz r q _ _ out (by simpa using hl) (fun k p q' hp' hq' => hk (k + 1) p q' hp' hq') (by rw [size_setL]; simpa using hs) hst hf
      refine ⟨us', ?_, h10, by simpa using h11, h12⟩
      simp only [Instr.fill]
      rw [if_neg (by simp; omega), ← Array.foldl_toList, Array.toList_zipIdx, foldl_zipIdx]
      exact h9
    · cases hf
def sBuildSlice (P : Program) (T : TI) (len : Nat) (parts : List (Nat × AV)) (h : AHeap) (n : Nat) : R1 :=
  match T.k with
  | .slice el => match (tyOf P el).zero with
    | some z => match fillRows (tyOf P el).size (List.replicate len z) parts with
      | some rows => ⟨len * (tyOf P el).size ≤ 16777216, .arr n 0 0 len, upd h n (some (.cells 0 (tyOf P el).size rows)), n + 1⟩
      | none => bad h n
    | none => bad h n
  | _ => bad h n
theorem snd_buildSlice {t : TypeId} {len : Nat} {parts : Array (Nat × Operand)} (ho : o.op = .buildSlice t len parts) (hg : Good L h n w) (hx : ∀ p, p ∈ parts.toList → V L (e p.2) (a.eval p.2)) :
    Snd P L a w o (sBuildSlice P (tyOf P t) len (partsE e parts) h n) := by
  have hp := parts_rel (a := a) hx
  unfold sBuildSlice
  split
  · rename_i el hk
    split
    · rename_i z hz
      split
      · rename_i rows hr
        intro hpre
        have hpre' : len * (tyOf P el).size ≤ 16777216 := hpre
        obtain ⟨v, h1, h2, h3, h4⟩ := zero_rel L hz
        obtain ⟨i0, v0, h1', _, _, _, h5', _, h7'⟩ := ty_zero hz
        have hsz : ∀ w : World, (sizeOf el).run P w = .ok (tyOf P el).size w := fun w => by simp [sizeOf, typeInfo, h1', h5']
        have hmade : RowsAt L ((Array.range (len * (tyOf P el).size)).map (fun i => v.cells[i % v.cells.size]!)) 0 (tyOf P el).size (List.replicate len z) := by
          rw [← h7']; exact rows_made h2 h3 h4 len _ (Nat.le_refl _)
        obtain ⟨us', h5, h6, h7, h8⟩ := fillRows_rel (L := L) _ _ _ (List.replicate len z) _ rows hp.1 hp.2 (by simp) hmade hr
        have hlen : rows.length = len := by rw [h7]; simp
        obtain ⟨L', h9, h10, h11, h12⟩ := hg.alloc us' el (tyOf P el).size len rows (by rw [h6, hlen]; exact Nat.le_refl _) (by omega) h8
        refine ⟨_, .slice (some ⟨w.heap.size, 0, none⟩) len len, w.alloc (.cells us' el), L', ?_, .inl rfl, h9, h10, ?_, h12⟩
        · unfold execOp
          simp only [ho, Instr.buildSlice, Sem.run_bind, run_underlying (ty_slice hk), Result.andThen_ok, hsz, Sem.run_ite]
          rw [if_neg (by omega)]
          simp only [Sem.run_pure, Result.andThen_ok]
          by_cases h0 : len * (tyOf P el).size = 0
          · simp only [h0, if_true, Sem.run_pure, Result.andThen_ok]
            rw [h0] at h5
            have : (Array.range 0).map (fun i => (#[] : Array Value)[i % (#[] : Array Value).size]!) = (Array.range 0).map (fun i => v.cells[i % v.cells.size]!) := by simp
            rw [this, h5]
            simp [_root_.Go.newRow]
          · simp only [h0, if_false, Sem.run_bind, h1, Result.andThen_ok, Sem.run_pure]
            rw [h5]
            simp [_root_.Go.newRow]
        · have := V.arr 0 len len h11 (Nat.le_refl _) (by omega)
          simpa using this
      · exact Snd.bad
    · exact Snd.bad
  · exact Snd.bad

/-! #### loads -/
theorem Addr_add (b k j : Nat) : (⟨b, k, none⟩ : Addr).add j = ⟨b, k + j, none⟩ := Addr.add_mid b k j
theorem run_loadVar_one {t : TypeId} {ad : Addr} {v : Value} (hk : (tyOf P t).k ≠ .other) (ha : (tyOf P t).agg = false) (hc : w.cell? ad = some v) : (loadVar t ad).run P w = .ok v w := by
  simp [loadVar, run_agg hk, ha, hc]
theorem run_loadVar_agg {t : TypeId} {b k : Nat} {cs : List Value} (hk : (tyOf P t).k ≠ .other) (ha : (tyOf P t).agg = true) (hs : (tyOf P t).size = cs.length) (hc : ∀ j v, cs[j]? = some v → w.cell? ⟨b, k + j, none⟩ = some v) :
    (loadVar t ⟨b, k, none⟩).run P w = .ok (.agg cs.toArray) w := by
  have hl : (loadCells ⟨b, k, none⟩ cs.length).run P w = .ok cs.toArray w :=
    run_loadCells_list (P := P) w ⟨b, k, none⟩ cs (fun j v hv => by rw [Addr_add]; exact hc j v hv)
  simp [loadVar, run_agg hk, ha, run_sz hk, hs, hl]

def sLoad (T : TI) (x : AV) (h : AHeap) (n : Nat) : R1 :=
  match x with
  | .rp cs => if T.agg then ⟨T.k ≠ .other ∧ T.size ≤ cs.length, .agg ((cs.take T.size).map .d), h, n⟩
    else match cs with
      | c :: _ => ⟨T.k ≠ .other, .d c, h, n⟩
      | [] => bad h n
  | .ptr l v i off => match h l with
    | some (.cells v' sz rows) => if T.agg then ⟨T.k ≠ .other ∧ v = v' ∧ i < rows.length ∧ off + T.size ≤ sz, .agg (((rows.getD i []).drop off).take T.size), h, n⟩
      else ⟨T.k ≠ .other ∧ v = v' ∧ i < rows.length ∧ off < sz, (rows.getD i []).getD off .any, h, n⟩
    | _ => bad h n
  | _ => bad h n

theorem load_run {t : TypeId} {x : AV} {u : Value} (hg : Good L h n w) (hx : V L x u) (hp : (sLoad (tyOf P t) x h n).pre) : (sLoad (tyOf P t) x h n).h = h ∧ (sLoad (tyOf P t) x h n).n = n ∧
    ∃ ad y, u = .pointer (some ad) ∧ (loadVar t ad).run P w = .ok y w ∧ V L (sLoad (tyOf P t) x h n).v y := by
  revert hp
  unfold sLoad
  split
  · rename_i cs
    cases hx with
    | rp _ b k f hc =>
      split
      · rename_i ha
        rintro ⟨hk, hs⟩
        refine ⟨rfl, rfl, ⟨b, k, none⟩, .agg ((List.range (tyOf P t).size).map f).toArray, rfl, ?_, ?_⟩
        · refine run_loadVar_agg hk ha (by simp) fun j v hj => ?_
          rw [List.getElem?_map] at hj
          cases hr : (List.range (tyOf P t).size)[j]? with
          | none => rw [hr] at hj; cases hj
          | some m =>
            rw [hr] at hj
            cases hj
            obtain ⟨hjl, hjm⟩ := List.getElem?_eq_some_iff.1 hr
            simp at hjm hjl
            subst hjm
            exact cell?_of_R hg (hc j _ (List.getElem?_eq_getElem (show j < cs.length by omega))).1
        · refine .agg _ _ (by simp; omega) fun j c hj => ?_
          rw [List.getElem?_map] at hj
          cases hr : (cs.take (tyOf P t).size)[j]? with
          | none => rw [hr] at hj; cases hj
          | some q =>
            rw [hr] at hj
            cases hj
            rw [List.getElem?_take] at hr
            split at hr
            · rename_i hlt
              have := (hc j q hr).2
              refine .d ?_
              simpa [Array.getD_eq_getD_getElem?, hlt] using this
            · cases hr
      · rename_i ha
        split
        · rename_i c r
          intro hk
          obtain ⟨h1, h2⟩ := hc 0 c rfl
          exact ⟨rfl, rfl, ⟨b, k, none⟩, f 0, rfl, run_loadVar_one hk (by simpa using ha) (cell?_of_R hg h1), .d h2⟩
        · intro hp; exact hp.elim
  · rename_i l v i off
    cases hx with
    | ptr _ _ hpl =>
      rename_i b k sz cap
      split
      · rename_i v' sz0 rows hl
        split
        · rename_i ha
          rintro ⟨hk, hv, hi, hs⟩
          subst hv
          obtain rfl := hg.szeq hl hpl
          have hri : rows[i]? = some (rows.getD i []) := by simp [List.getD_eq_getElem?_getD, hi]
          obtain ⟨h1, f, h2⟩ := hg.row hl hpl hri
          refine ⟨rfl, rfl, ⟨b, k + i * sz + off, none⟩, .agg ((List.range (tyOf P t).size).map fun j => f (off + j)).toArray, rfl, ?_, ?_⟩
          · refine run_loadVar_agg hk ha (by simp) fun j u hj => ?_
            rw [List.getElem?_map] at hj
            cases hr : (List.range (tyOf P t).size)[j]? with
            | none => rw [hr] at hj; cases hj
            | some m =>
              rw [hr] at hj
              cases hj
              obtain ⟨hjl, hjm⟩ := List.getElem?_eq_some_iff.1 hr
              simp at hjm hjl
              subst hjm
              have := (h2 (off + j) _ (List.getElem?_eq_getElem (show off + j < (rows.getD i []).length by omega))).1
              rw [← Nat.add_assoc] at this; exact this
          · refine .agg _ _ (by rw [List.size_toArray, List.length_map, List.length_range, List.length_take, List.length_drop]; omega) fun j c hj => ?_
            rw [List.getElem?_take] at hj
            split at hj
            · rename_i hlt
              rw [List.getElem?_drop] at hj
              have := (h2 (off + j) c hj).2.1
              simpa [Array.getD_eq_getD_getElem?, hlt] using this
            · cases hj
        · rename_i ha
          rintro ⟨hk, hv, hi, hs⟩
          subst hv
          obtain rfl := hg.szeq hl hpl
          have hri : rows[i]? = some (rows.getD i []) := by simp [List.getD_eq_getElem?_getD, hi]
          obtain ⟨h1, f, h2⟩ := hg.row hl hpl hri
          have hcell : (rows.getD i [])[off]? = some ((rows.getD i []).getD off .any) := by rw [List.getD_eq_getElem?_getD (l := rows.getD i []), List.getElem?_eq_getElem (by omega)]; rfl
          obtain ⟨h3, h4, h5⟩ := h2 off _ hcell
          exact ⟨rfl, rfl, ⟨b, k + i * sz + off, none⟩, f off, rfl, run_loadVar_one hk (by simpa using ha) h3, h4⟩
      · intro hp; exact hp.elim
  · intro hp; exact hp.elim
theorem snd_load {t : TypeId} {x : Operand} (ho : o.op = .load t x) (hg : Good L h n w) (hx : V L (e x) (a.eval x)) : Snd P L a w o (sLoad (tyOf P t) (e x) h n) := by
  refine Snd.quiet hg fun hp => ?_
  obtain ⟨h1, h2, ad, y, h3, h4, h5⟩ := load_run hg hx hp
  refine ⟨h1, h2, y, ?_, h5⟩
  unfold execOp
  simp [ho, Instr.loadAt, Instr.sureAddr, h3, h4]

/-! #### stores -/
def sStore (T : TI) (x y : AV) (h : AHeap) (n : Nat) : R1 :=
  match x with
  | .ptr l v i off => match h l with
    | some (.cells v' sz rows) => ⟨T.k ≠ .other ∧ v = v' ∧ i < rows.length ∧ (cellsOf y).length = T.size ∧ off + (cellsOf y).length ≤ sz ∧ cellsOK y = true, .tup [], upd h l (some (.cells v sz (rows.set i (putAt (rows.getD i []) off (cellsOf y))))), n⟩
    | _ => bad h n
  | _ => bad h n
theorem V_undef (L : Link) : V L (.tup []) undef := .tup [] #[] rfl fun j c hj => by simp at hj
theorem snd_store {t : TypeId} {x y : Operand} (ho : o.op = .store t x y) (hg : Good L h n w) (hx : V L (e x) (a.eval x)) (hy : V L (e y) (a.eval y)) : Snd P L a w o (sStore (tyOf P t) (e x) (e y) h n) := by
  intro hp
  unfold sStore at hp ⊢
  revert hp
  split
  · rename_i l v i off hex
    rw [hex] at hx
    split
    · rename_i v' sz0 rows hl
      intro hp
      obtain ⟨hk, hv, hi, hs, hf, hok⟩ := hp
      subst hv
      generalize hae : a.eval x = u at hx
      cases hx with
      | ptr _ _ hpl =>
        rename_i b k sz cap
        obtain rfl := hg.szeq hl hpl
        obtain ⟨h1, h2, h3⟩ := hy.cellsRel hok
        have hri : rows[i]? = some (rows.getD i []) := by simp [List.getD_eq_getElem?_getD, hi]
        have hf' : off + (cellsOf (e y)).length ≤ (rows.getD i []).length := by rw [(hg.row hl hpl hri).1]; exact hf
        obtain ⟨h4, h5⟩ := hg.store hl hpl hri (off := off) (cellsOf (e y)) (a.eval y).cells.toList (by simpa using h1) hf' (fun j c hj => by have := h2 j c hj; simpa [Array.getD_eq_getD_getElem?, List.getD_eq_getElem?_getD] using this) h3
        refine ⟨.skip, undef, _, L, ?_, .inr ⟨rfl, rfl⟩, Ext.refl L, rfl, V_undef L, h5⟩
        have hst := run_storeCells_cells (P := P) b (k + i * sz + off) (a.eval y).cells.toList 0 w (fun j hj => by simpa using (h4 j hj).1) (fun j hj => by simpa using (h4 j hj).2) h3
        simp only [Nat.add_zero] at hst
        unfold execOp
        simp only [ho, hae, Instr.storeAt, Instr.sureAddr, Sem.run_bind, Sem.run_pure, Result.andThen_ok, storeVar, run_sz hk, Sem.run_ite]
        rw [if_neg (by rw [h1, hs]; simp)]
        rw [hst]; rfl
    · intro hp; exact hp.elim
  · intro hp; exact hp.elim
end
end Go.AM
