/- An abstract machine over the model: make, len, append, max, min. -/
import Derived.Test.YtdocdnmbmikefaaAmR
set_option linter.unusedVariables false
set_option linter.unusedSimpArgs false
namespace Go.AM
section
variable {P : Program} {L : Link} {a : Act} {w : World} {o : Oper} {h : AHeap} {n : Nat} {e : Operand → AV}

def sMakeSlice (P : Program) (T : TI) (l c : AV) (h : AHeap) (n : Nat) : R1 :=
  match T.k, l, c with
  | .slice el, .d (.int _ l), .d (.int _ c) => match (tyOf P el).zero with
    | some z => ⟨0 ≤ l ∧ l ≤ c ∧ (tyOf P el).bytes * c ≤ 281474976710656 ∧ c ≤ 9223372036854775807, .arr n 0 0 l.toNat, upd h n (some (.cells 0 (tyOf P el).size (List.replicate l.toNat z))), n + 1⟩
    | none => bad h n
  | _, _, _ => bad h n
theorem snd_makeSlice {t : TypeId} {l c : Operand} (ho : o.op = .makeSlice t l c) (hg : Good L h n w) (hl : V L (e l) (a.eval l)) (hc : V L (e c) (a.eval c)) : Snd P L a w o (sMakeSlice P (tyOf P t) (e l) (e c) h n) := by
  unfold sMakeSlice
  split
  · rename_i el k l' k' c' hk h1 h2
    rw [h1] at hl
    rw [h2] at hc
    have hl := V_int hl
    have hc := V_int hc
    split
    · rename_i z hz
      intro hp
      obtain ⟨h3, h4, h5, h6⟩ := hp
      obtain ⟨i0, v0, q1, q2, q3, q4, q5, q6, q7⟩ := ty_zero hz
      obtain ⟨v, z1, z2, z3, z4⟩ := zero_rel L hz
      have hv : v = v0 := by
        have := z1 w
        simp [zeroValue, typeInfo, q1, q2] at this
        exact this.symm
      subst hv
      have hb : i0.bytes = (tyOf P el).bytes := by unfold tyOf; rw [q1]
      have hrun := run_make (P := P) w t el i0 v (ty_slice hk) q1 q2 k k' l' c' h3 h4 (by rw [hb]; exact h5) h6
      rw [q5] at hrun
      have hmul : l'.toNat * (tyOf P el).size ≤ c'.toNat * (tyOf P el).size := Nat.mul_le_mul_right _ (by omega)
      obtain ⟨L', r1, r2, r3, r4⟩ := hg.alloc (madeCells v.cells (c'.toNat * (tyOf P el).size)) el (tyOf P el).size c'.toNat (List.replicate l'.toNat z) (by rw [size_madeCells]; exact Nat.le_refl _) (by simp; omega)
        (by rw [← q7] at hmul ⊢; exact rows_made z2 z3 z4 _ _ hmul)
      refine ⟨_, .slice (some ⟨w.heap.size, 0, none⟩) l'.toNat c'.toNat, _, L', ?_, .inl rfl, r1, r2, ?_, r4⟩
      · unfold execOp
        simp only [ho, hl, hc, Sem.run_bind, hrun, Result.andThen_ok, Sem.run_pure]
      · have := V.arr 0 l'.toNat c'.toNat r3 (by omega) (by omega)
        simpa using this
    · exact Snd.bad
  · exact Snd.bad

/-! #### calls of builtins -/
theorem exec_builtin {b : Builtin} {args : Array Operand} {ts : Array TypeId} (ho : o.op = .call { callee := .builtin b, args := args, argTypes := ts }) :
    execOp a.eval o = builtin b ts o.type (args.map fun | .const _ => true | _ => false) (args.map a.eval) := by
  unfold execOp
  simp only [ho, resolve]
  rfl

def sLen (x : AV) (h : AHeap) (n : Nat) : R1 :=
  match x with
  | .d (.ro xs) => ⟨True, .d (.int .i64 xs.length), h, n⟩
  | .d .nilS => ⟨True, .d (.int .i64 0), h, n⟩
  | .d .roZ => ⟨True, .d (.int .i64 0), h, n⟩
  | .d .nilM => ⟨True, .d (.int .i64 0), h, n⟩
  | .d (.str s) => ⟨True, .d (.int .i64 s.size), h, n⟩
  | .arr _ _ _ len => ⟨True, .d (.int .i64 len), h, n⟩
  | .map l => match h l with
    | some (.map _ _ _ es) => ⟨True, .d (.int .i64 es.length), h, n⟩
    | _ => bad h n
  | _ => bad h n
def tkLen : TK → AV → Bool
  | .slice _, .d (.ro _) => true
  | .slice _, .d .nilS => true
  | .slice _, .d .roZ => true
  | .slice _, .arr _ _ _ _ => true
  | .str, .d (.str _) => true
  | .map _ _, .map _ => true
  | .map _ _, .d .nilM => true
  | _, _ => false
theorem snd_len {x : Operand} {t : TypeId} (ho : o.op = .call { callee := .builtin .len, args := #[x], argTypes := #[t] }) (hg : Good L h n w) (hx : V L (e x) (a.eval x)) :
    Snd P L a w o { sLen (e x) h n with pre := tkLen (tyOf P t).k (e x) = true ∧ (sLen (e x) h n).pre } := by
  refine Snd.quiet hg fun hp => ?_
  obtain ⟨h1, h2⟩ := hp
  rw [exec_builtin ho]
  simp only [builtin, List.map_toArray, List.map_cons, List.map_nil]
  generalize a.eval x = u at hx ⊢
  revert h1 h2
  unfold sLen
  split
  · rename_i xs hq
    rw [hq] at hx ⊢
    intro h1 _
    refine ⟨rfl, rfl, .int .i64 xs.length, ?_, .d (.int _ _)⟩
    cases hk : (tyOf P t).k <;> rw [hk] at h1 <;> simp [tkLen] at h1
    cases hx with | d hd => cases hd <;> simp [Builtin.len_, run_underlying (ty_slice hk), goInt]
  · rename_i hq
    rw [hq] at hx ⊢
    intro h1 _
    refine ⟨rfl, rfl, .int .i64 0, ?_, .d (.int _ _)⟩
    cases hk : (tyOf P t).k <;> rw [hk] at h1 <;> simp [tkLen] at h1
    cases hx with | d hd => cases hd; simp [Builtin.len_, run_underlying (ty_slice hk), goInt]
  · rename_i hq
    rw [hq] at hx ⊢
    intro h1 _
    refine ⟨rfl, rfl, .int .i64 0, ?_, .d (.int _ _)⟩
    cases hk : (tyOf P t).k <;> rw [hk] at h1 <;> simp [tkLen] at h1
    cases hx with | d hd => cases hd; simp [Builtin.len_, run_underlying (ty_slice hk), goInt]
  · rename_i hq
    rw [hq] at hx ⊢
    intro h1 _
    refine ⟨rfl, rfl, .int .i64 0, ?_, .d (.int _ _)⟩
    cases hk : (tyOf P t).k <;> rw [hk] at h1 <;> simp [tkLen] at h1
    cases hx with | d hd => cases hd; simp [Builtin.len_, run_underlying (ty_map hk), goInt]
  · rename_i s hq
    rw [hq] at hx ⊢
    intro h1 _
    refine ⟨rfl, rfl, .int .i64 s.size, ?_, .d (.int _ _)⟩
    cases hk : (tyOf P t).k <;> rw [hk] at h1 <;> simp [tkLen] at h1
    cases hx with | d hd => cases hd; simp [Builtin.len_, run_underlying (ty_str hk), goInt]
  · rename_i l v i len hq
    rw [hq] at hx ⊢
    intro h1 _
    refine ⟨rfl, rfl, .int .i64 len, ?_, .d (.int _ _)⟩
    cases hk : (tyOf P t).k <;> rw [hk] at h1 <;> simp [tkLen] at h1
    cases hx <;> simp [Builtin.len_, run_underlying (ty_slice hk), goInt]
  · rename_i l hq
    rw [hq] at hx ⊢
    split
    · rename_i pin ag kn es hl
      intro h1 _
      refine ⟨rfl, rfl, .int .i64 es.length, ?_, .d (.int _ _)⟩
      cases hk : (tyOf P t).k <;> rw [hk] at h1 <;> simp [tkLen] at h1
      obtain ⟨own, gh, hob⟩ := hg.obs
      obtain ⟨r, ents, clock, m1, m2, m3, m4, m5, m6⟩ := hob l _ hl
      cases hx with
      | map hm =>
        rw [m1] at hm
        cases hm
        simp [Builtin.len_, run_underlying (ty_map hk), goInt, getObj, Sem.run, m2, m5.size]
    · intro _ h2; exact h2.elim
  · intro _ h2; exact h2.elim

def sMM (mx : Bool) (x y : AV) (h : AHeap) (n : Nat) : R1 :=
  match x, y with
  | .d (.int k i), .d (.int _ j) => ⟨True, .d (.int k (if mx then (if j > i then j else i) else (if j < i then j else i))), h, n⟩
  | _, _ => bad h n
theorem snd_max {x y : Operand} {ts : Array TypeId} (ho : o.op = .call { callee := .builtin .max, args := #[x, y], argTypes := ts }) (hg : Good L h n w) (hx : V L (e x) (a.eval x)) (hy : V L (e y) (a.eval y)) :
    Snd P L a w o (sMM true (e x) (e y) h n) := by
  unfold sMM
  split
  · rename_i k i k' j h1 h2
    rw [h1] at hx
    rw [h2] at hy
    have hx := V_int hx
    have hy := V_int hy
    refine Snd.quiet hg fun _ => ⟨rfl, rfl, .int k (if j > i then j else i), ?_, .d (by simp; exact .int _ _)⟩
    rw [exec_builtin ho]
    simp [builtin, hx, hy, Builtin.max_, Builtin.max2]
  · exact Snd.bad
theorem snd_min {x y : Operand} {ts : Array TypeId} (ho : o.op = .call { callee := .builtin .min, args := #[x, y], argTypes := ts }) (hg : Good L h n w) (hx : V L (e x) (a.eval x)) (hy : V L (e y) (a.eval y)) :
    Snd P L a w o (sMM false (e x) (e y) h n) := by
  unfold sMM
  split
  · rename_i k i k' j h1 h2
    rw [h1] at hx
    rw [h2] at hy
    have hx := V_int hx
    have hy := V_int hy
    refine Snd.quiet hg fun _ => ⟨rfl, rfl, .int k (if j < i then j else i), ?_, .d (by simp; exact .int _ _)⟩
    rw [exec_builtin ho]
    simp [builtin, hx, hy, Builtin.min_, Builtin.min2]
  · exact Snd.bad

/-! #### append -/
def srcRows (h : AHeap) : AV → Option (List (List AV))
  | .d (.ro ys) => some (ys.map fun r => r.map .d)
  | .d .nilS => some []
  | .d .roZ => some []
  | .arr l v i len => match h l with
    | some (.cells v' _ rows) => if v = v' ∧ i + len ≤ rows.length then some ((rows.drop i).take len) else none
    | _ => none
  | _ => none

theorem src_rel {x : AV} {u : Value} (hg : Good L h n w) (hx : V L x u) {rows : List (List AV)} (hs : srcRows h x = some rows) {sz : Nat} (hw : ∀ row, row ∈ rows → row.length = sz) :
    ∃ (g : Nat → Nat → Value) (ad : Option Addr) (c : Nat), u = .slice ad rows.length c ∧ (rows ≠ [] → ∃ b o, ad = some ⟨b, o, none⟩ ∧ ∀ i j, i < rows.length → j < sz → w.cell? ⟨b, o + i * sz + j, none⟩ = some (g i j)) ∧
      ∀ i j row y, rows[i]? = some row → row[j]? = some y → V L y (g i j) ∧ (g i j).oneCell' = true := by
  unfold srcRows at hs
  split at hs
  · rename_i ys
    cases hs
    cases hx with
    | d hd =>
      cases hd with
      | roN => exact ⟨fun _ _ => undef, none, 0, rfl, fun h => absurd rfl h, fun i j row y hi => by simp at hi⟩
      | roE ad cap => exact ⟨fun _ _ => undef, some ad, cap, rfl, fun h => absurd rfl h, fun i j row y hi => by simp at hi⟩
      | ro _ b o cap sz' f hl hw' hc hv =>
        refine ⟨f, some ⟨b, o, none⟩, cap, by simp, fun hne => ⟨b, o, rfl, fun i j hi hj => ?_⟩, fun i j row y hi hj => ?_⟩
        · have hi' : i < ys.length := by simpa using hi
          have : sz' = sz := by
            have h1 := hw' _ (List.getElem_mem hi')
            have h2 := hw (ys[i].map .d) (List.mem_map.2 ⟨_, List.getElem_mem hi', rfl⟩)
            simp at h2; omega
          subst this
          exact cell?_of_R hg (hc i j hi' hj)
        · rw [List.getElem?_map] at hi
          cases hq : ys[i]? with
          | none => rw [hq] at hi; cases hi
          | some r =>
            rw [hq] at hi
            cases hi
            rw [List.getElem?_map] at hj
            cases hq2 : r[j]? with
            | none => rw [hq2] at hj; cases hj
            | some c =>
              rw [hq2] at hj
              cases hj
              exact ⟨.d (hv i j c r hq hq2), (hv i j c r hq hq2).one⟩
  · cases hs
    cases hx with | d hd => cases hd; exact ⟨fun _ _ => undef, none, 0, rfl, fun h => absurd rfl h, fun i j row y hi => by simp at hi⟩
  · cases hs
    cases hx with | d hd => cases hd with | roZ ad cap => exact ⟨fun _ _ => undef, some ad, cap, rfl, fun h => absurd rfl h, fun i j row y hi => by simp at hi⟩
  · rename_i l v i len
    split at hs
    · rename_i v' sz0 rows' hl
      split at hs
      · rename_i hc
        obtain ⟨rfl, hlen⟩ := hc
        cases hs
        have hll : ((rows'.drop i).take len).length = len := by simp; omega
        cases hx with
        | arr _ _ c hpl hl' hc =>
          rename_i b o sz' cap
          obtain rfl := hg.szeq hl hpl
          have key : ∀ r, r < len → ∃ (row : List AV) (f : Nat → Value), rows'[i + r]? = some row ∧ row.length = sz' ∧ ∀ j y, row[j]? = some y → w.cell? ⟨b, o + (i + r) * sz' + j, none⟩ = some (f j) ∧ V L y (f j) ∧ (f j).oneCell' = true := fun r hr => by
            have hrow : rows'[i + r]? = some rows'[i + r] := List.getElem?_eq_getElem (by omega)
            obtain ⟨h1, f, h2⟩ := hg.row hl hpl hrow
            exact ⟨_, f, hrow, h1, h2⟩
          refine ⟨fun r j => (w.cell? ⟨b, o + (i + r) * sz' + j, none⟩).getD undef, some ⟨b, o + i * sz', none⟩, c, by rw [hll], fun hne => ⟨b, o + i * sz', rfl, fun r j hr hj => ?_⟩, fun r j row y hr hj => ?_⟩
          · rw [hll] at hr
            obtain ⟨row, f, h1, h2, h3⟩ := key r hr
            have hm : row ∈ (rows'.drop i).take len := List.mem_of_getElem? (i := r) (by rw [List.getElem?_take, if_pos hr, List.getElem?_drop]; exact h1)
            have : sz' = sz := by rw [← h2]; exact hw row hm
            subst this
            have h4 := (h3 j _ (List.getElem?_eq_getElem (by omega))).1
            have e1 : o + i * sz' + r * sz' + j = o + (i + r) * sz' + j := by rw [Nat.add_mul]; omega
            rw [e1, h4]; simp only [h4, Option.getD_some]
          · rw [List.getElem?_take] at hr
            split at hr
            · rename_i hlt
              rw [List.getElem?_drop] at hr
              obtain ⟨row', f, h1, h2, h3⟩ := key r hlt
              rw [h1] at hr
              cases hr
              obtain ⟨h4, h5, h6⟩ := h3 j y hj
              simp only [h4]
              exact ⟨h5, h6⟩
            · cases hr
        | arrN hpl =>
          refine ⟨fun _ _ => undef, none, 0, by simp, fun h => absurd (by simp) h, fun i j row y hi => by simp at hi⟩
        | arrE _ ad hpl => exact ⟨fun _ _ => undef, some ad, 0, by simp, fun h => absurd (by simp) h, fun i j row y hi => by simp at hi⟩
      · cases hs
    · cases hs
  · cases hs

theorem RowsAt.drop {c : Array Value} {b sz : Nat} {rows : List (List AV)} (hr : RowsAt L c b sz rows) (i : Nat) : RowsAt L c (b + i * sz) sz (rows.drop i) :=
  ⟨fun row h => hr.1 row (List.mem_of_mem_drop h), fun r j row x h1 h2 => by
    rw [List.getElem?_drop] at h1
    have := hr.2 (i + r) j row x h1 h2
    rw [Nat.add_mul, ← Nat.add_assoc] at this
    exact this⟩
/-- Rows, of which it is told cell by cell what they hold. -/
theorem RowsAt.of {c : Array Value} {b sz : Nat} {rows : List (List AV)} (G : Nat → Nat → Value) (hw : ∀ row, row ∈ rows → row.length = sz) (hc : ∀ i j, i < rows.length → j < sz → c.getD (b + i * sz + j) undef = G i j)
    (hv : ∀ i j row x, rows[i]? = some row → row[j]? = some x → V L x (G i j) ∧ (G i j).oneCell' = true) : RowsAt L c b sz rows :=
  ⟨hw, fun i j row x h1 h2 => by
    have hi := (List.getElem?_eq_some_iff.1 h1).1
    have hj : j < sz := by rw [← hw row (List.mem_of_getElem? h1)]; exact (List.getElem?_eq_some_iff.1 h2).1
    rw [hc i j hi hj]
    exact hv i j row x h1 h2⟩

/-- Rows' cells in a list. -/
def flatG (G : Nat → Nat → Value) (k sz : Nat) : List Value := (List.range (k * sz)).map fun m => G (m / sz) (m % sz)
theorem flatG_length (G : Nat → Nat → Value) (k sz : Nat) : (flatG G k sz).length = k * sz := by simp [flatG]
theorem divmod {i j sz : Nat} (hj : j < sz) : (i * sz + j) / sz = i ∧ (i * sz + j) % sz = j := by
  constructor
  · rw [Nat.add_comm, Nat.add_mul_div_right _ _ (by omega), Nat.div_eq_of_lt hj]; omega
  · rw [Nat.add_comm, Nat.add_mul_mod_self_right]; exact Nat.mod_eq_of_lt hj
theorem flatG_get (G : Nat → Nat → Value) {k sz i j : Nat} (hi : i < k) (hj : j < sz) : (flatG G k sz)[i * sz + j]? = some (G i j) := by
  have := row_lt (sz := sz) (m := 0) hi
  simp only [flatG, List.getElem?_map]
  rw [List.getElem?_range (by omega)]
  obtain ⟨h1, h2⟩ := divmod (i := i) hj
  simp [h1, h2]
theorem flatG_inv (G : Nat → Nat → Value) {k sz m : Nat} {v : Value} (h : (flatG G k sz)[m]? = some v) : m / sz < k ∧ m % sz < sz ∧ m / sz * sz + m % sz = m ∧ v = G (m / sz) (m % sz) := by
  have hm : m < k * sz := by have := (List.getElem?_eq_some_iff.1 h).1; rwa [flatG_length] at this
  have hs : 0 < sz := by rcases Nat.eq_zero_or_pos sz with h' | h'; · subst h'; simp at hm
                         · exact h'
  refine ⟨Nat.div_lt_of_lt_mul (by rwa [Nat.mul_comm]), Nat.mod_lt _ hs, by rw [Nat.mul_comm]; exact Nat.div_add_mod m sz, ?_⟩
  simp only [flatG, List.getElem?_map] at h
  rw [List.getElem?_range hm] at h
  simpa using h.symm

def sAppend (P : Program) (T T2 : TI) (s x : AV) (h : AHeap) (n : Nat) : R1 :=
  match T.k, srcRows h x with
  | .slice el, some src => match s with
    | .d .nilS => ⟨T2.k = .slice el ∧ 0 < (tyOf P el).size ∧ 0 < (tyOf P el).bytes ∧ (tyOf P el).zero.isSome = true ∧ (∀ row, row ∈ src → row.length = (tyOf P el).size) ∧ src.length * (tyOf P el).bytes ≤ 140737488355328,
        .arr n 0 0 src.length, upd h n (some (.cells 0 (tyOf P el).size src)), n + 1⟩
    | .arr l v i len => match h l with
      | some (.cells v' sz rows) => ⟨v = v' ∧ i + len = rows.length ∧ sz = (tyOf P el).size ∧ T2.k = .slice el ∧ 0 < (tyOf P el).size ∧ 0 < (tyOf P el).bytes ∧ (tyOf P el).zero.isSome = true ∧ (∀ row, row ∈ src → row.length = (tyOf P el).size) ∧ (len + src.length) * (tyOf P el).bytes ≤ 140737488355328,
          .arr l (v + 1) 0 (len + src.length), upd h l (some (.cells (v + 1) (tyOf P el).size (rows.drop i ++ src))), n⟩
      | _ => bad h n
    | _ => bad h n
  | _, _ => bad h n

/-- What an append's source gives, as the kit's law asks it. -/
theorem src_of {t2 el : TypeId} (hk2 : (tyOf P t2).k = .slice el) {src : List (List AV)} {sz : Nat} {g : Nat → Nat → Value} {ad : Option Addr} {c : Nat} (hne : src ≠ [] → ∃ b o, ad = some ⟨b, o, none⟩ ∧ ∀ i j, i < src.length → j < sz → w.cell? ⟨b, o + i * sz + j, none⟩ = some (g i j))
    (hw : ∀ row, row ∈ src → row.length = sz) (h1 : ∀ i j row y, src[i]? = some row → row[j]? = some y → (g i j).oneCell' = true) : Src P sz t2 (.slice ad src.length c) src.length (flatG g src.length sz) w := by
  have hone : ∀ u ∈ flatG g src.length sz, u.oneCell' = true := fun u hu => by
    obtain ⟨m, hm⟩ := List.getElem?_of_mem hu
    obtain ⟨h2, h3, _, rfl⟩ := flatG_inv g hm
    have hrow : src[m / sz]? = some src[m / sz] := List.getElem?_eq_getElem h2
    exact h1 _ _ _ _ hrow (List.getElem?_eq_getElem (by rw [hw _ (List.getElem_mem h2)]; exact h3))
  cases src with
  | nil =>
    have e1 : flatG g ([] : List (List AV)).length sz = [] := by simp [flatG]
    rw [e1]
    cases ad with
    | none => exact Src.ofNil w (ty_slice hk2) c
    | some ad => exact Src.ofSlice w (ty_slice hk2) ad 0 c [] (by simp) (fun j u hj => by simp at hj) (fun u hu => by cases hu)
  | cons r q =>
    obtain ⟨b, o, rfl, hc⟩ := hne (by simp)
    refine Src.ofSlice w (ty_slice hk2) ⟨b, o, none⟩ _ c _ (flatG_length _ _ _) (fun m u hm => ?_) hone
    obtain ⟨h2, h3, h4, rfl⟩ := flatG_inv g hm
    rw [Addr_add]
    have := hc _ _ h2 h3
    rw [Nat.add_assoc, h4] at this
    exact this

theorem exec_append {s x : Operand} {t t2 : TypeId} (ho : o.op = .call { callee := .builtin .append, args := #[s, x], argTypes := #[t, t2] }) {u : Value} {w' : World} (hr : (Builtin.append_ #[t, t2] o.type #[a.eval s, a.eval x]).run P w = .ok u w') :
    (execOp a.eval o).run P w = .ok (.value u) w' := by
  rw [exec_builtin ho]
  simp only [builtin, List.map_toArray, List.map_cons, List.map_nil, Sem.run_bind, hr, Result.andThen_ok, Sem.run_pure]

theorem getD_app1 (xs ys : Array Value) {j : Nat} (h : j < xs.size) : (xs ++ ys).getD j undef = xs.getD j undef := by
  simp [Array.getD_eq_getD_getElem?, Array.getElem?_append, h]
theorem getD_of_list {l : List Value} {j : Nat} {v : Value} (h : l[j]? = some v) : l.toArray.getD j undef = v := by
  simp [Array.getD_eq_getD_getElem?, h]

/-- The new rows' cells, behind the old ones'. -/
theorem rows_grown {olds src : List (List AV)} {sz : Nat} (hw1 : ∀ row, row ∈ olds → row.length = sz) (hw2 : ∀ row, row ∈ src → row.length = sz) (G g : Nat → Nat → Value) (rest : Array Value)
    (h1 : ∀ i j row y, olds[i]? = some row → row[j]? = some y → V L y (G i j) ∧ (G i j).oneCell' = true) (h2 : ∀ i j row y, src[i]? = some row → row[j]? = some y → V L y (g i j) ∧ (g i j).oneCell' = true) :
    RowsAt L ((flatG G olds.length sz ++ flatG g src.length sz).toArray ++ rest) 0 sz (olds ++ src) := by
  refine RowsAt.of (fun i j => if i < olds.length then G i j else g (i - olds.length) j) (fun row h => by rcases List.mem_append.1 h with h | h; exact hw1 row h; exact hw2 row h) (fun i j hi hj => ?_) (fun i j row x hi hj => ?_)
  · rw [List.length_append] at hi
    have hm := row_lt (sz := sz) (m := 0) hi
    rw [Nat.add_mul] at hm
    rw [getD_app1 _ _ (by simp [flatG_length]; omega), Nat.zero_add]
    by_cases hlt : i < olds.length
    · have hm2 := row_lt (sz := sz) (m := 0) hlt
      rw [if_pos hlt]
      refine getD_of_list ?_
      rw [List.getElem?_append_left (by rw [flatG_length]; omega)]
      exact flatG_get G hlt hj
    · rw [if_neg hlt]
      refine getD_of_list ?_
      have e1 : i * sz = olds.length * sz + (i - olds.length) * sz := by rw [← Nat.add_mul]; congr 1; omega
      rw [List.getElem?_append_right (by rw [flatG_length, e1]; omega), flatG_length, e1]
      rw [show olds.length * sz + (i - olds.length) * sz + j - olds.length * sz = (i - olds.length) * sz + j by omega]
      exact flatG_get g (by omega) hj
  · by_cases hlt : i < olds.length
    · rw [if_pos hlt]
      rw [List.getElem?_append_left hlt] at hi
      exact h1 i j row x hi hj
    · rw [if_neg hlt]
      rw [List.getElem?_append_right (by omega)] at hi
      exact h2 _ j row x hi hj

theorem Good.drewAlloc {c : Array Value} {el : TypeId} (hg : Good L h n w) : Good L h n w.drew := hg.drew

theorem snd_append {s x : Operand} {t t2 : TypeId} (ho : o.op = .call { callee := .builtin .append, args := #[s, x], argTypes := #[t, t2] }) (hg : Good L h n w) (hs : V L (e s) (a.eval s)) (hx : V L (e x) (a.eval x)) :
    Snd P L a w o (sAppend P (tyOf P t) (tyOf P t2) (e s) (e x) h n) := by
  unfold sAppend
  split
  · rename_i el src hk hsrc
    split
    · -- from nil
      rename_i hes
      intro hp
      obtain ⟨hk2, hsz, hby, hz, hw, hfit⟩ := hp
      rw [hes] at hs
      have hs := V_nilS hs
      obtain ⟨g, ad, c, hxe, hne, hval⟩ := src_rel hg hx hsrc hw
      have hS := src_of (P := P) (w := w) hk2 (c := c) hne hw (fun i j row y h1 h2 => (hval i j row y h1 h2).2)
      obtain ⟨z, hz⟩ := Option.isSome_iff_exists.1 hz
      obtain ⟨i0, v0, q1, q2, q3, q4, q5, q6, q7⟩ := ty_zero hz
      have hb : i0.bytes = (tyOf P el).bytes := by unfold tyOf; rw [q1]
      by_cases h0 : src = []
      · subst h0
        have hfree := (hg.fresh n (Nat.le_refl _)).1
        have hx2 : Ext L (L.put n 0 .nil) := Link.ext_put (hfree 0) _
        refine ⟨_, .slice none 0 0, w, L.put n 0 .nil, exec_append (u := .slice none 0 0) ho ?_, .inl rfl, hx2, rfl, .arrN (Link.put_same _ _ _ _), ?_⟩
        · rw [hs, hxe]
          simp only [List.length_nil] at hS ⊢
          rcases hS.kind with ⟨e', hk'⟩ | hk' <;> simp [Builtin.append_, run_underlying (ty_slice hk), run_underlying hk', sizeOf, typeInfo, q1, hS.len, Builtin.lenOf]
          all_goals (cases ad <;> simp [Builtin.firstCells, loadCells, loadCellsFrom, storeCells])
        · obtain ⟨own, gh, hob⟩ := hg.obs
          refine ⟨⟨own, gh, fun k ob hk => ?_⟩, hg.ro, fun l hl => ?_, hg.env⟩
          · simp only [upd] at hk
            split at hk
            · rename_i e1
              subst e1
              cases hk
              refine ⟨fun v' hv' => ?_, .inl ⟨Link.put_same _ _ _ _, rfl⟩⟩
              simp only [Link.put]
              rw [if_neg (by omega)]
              exact hfree v'
            · exact (hob k ob hk).mono hx2 rfl (fun v' hv' => by simp only [Link.put]; rw [if_neg (by omega)]; exact hv')
          · have hl' : n + 1 ≤ l := hl
            have := hg.fresh l (by omega)
            exact ⟨fun v => by simp only [Link.put]; rw [if_neg (by omega)]; exact this.1 v, this.2⟩
      · have hpos : 0 < src.length := List.length_pos_iff.2 h0
        have hmul : src.length ≤ src.length * (tyOf P el).bytes := Nat.le_mul_of_pos_right _ hby
        have hrun := run_append_grow_src (P := P) w t t2 o.type el i0 v0 (ty_slice hk) q1 q2 none 0 0 [] (run_firstCells_none _ _ _ _ _) (.slice ad src.length c) src.length (flatG g src.length (tyOf P el).size) (by rw [q5]; exact hS) (by omega) (by omega)
          (by have := nextslicecap_le (need := 0 + src.length) (old := 0) (by omega); have h2 := Nat.mul_le_mul_right i0.bytes this; rw [hb] at h2 ⊢; rw [Nat.zero_add, Nat.mul_assoc] at h2; rw [Nat.zero_add]; omega)
        simp only [Nat.zero_add, List.nil_append] at hrun
        have hcap : src.length ≤ grownCap w src.length 0 el := Nat.le_add_right _ _
        have hgr := rows_grown (L := L) (olds := []) (src := src) (sz := (tyOf P el).size) (by simp) hw (fun _ _ => undef) g (Builtin.zeroCells v0.cells (grownCap w src.length 0 el - src.length)) (by simp) hval
        simp only [List.length_nil, List.nil_append] at hgr
        have hf0 : flatG (fun _ _ => undef) 0 (tyOf P el).size = [] := by simp [flatG]
        rw [hf0, List.nil_append] at hgr
        have hzs : (Builtin.zeroCells v0.cells (grownCap w src.length 0 el - src.length)).size = (grownCap w src.length 0 el - src.length) * (tyOf P el).size := by simp [Builtin.zeroCells, q4, q5]
        obtain ⟨L', r1, r2, r3, r4⟩ := hg.drew.alloc _ el (tyOf P el).size (grownCap w src.length 0 el) src (by
          rw [Array.size_append, hzs, List.size_toArray, flatG_length, ← Nat.add_mul]
          exact Nat.mul_le_mul_right _ (by omega)) hcap hgr
        refine ⟨_, .slice (some ⟨w.heap.size, 0, none⟩) src.length (grownCap w src.length 0 el), _, L', exec_append ho (by rw [hs, hxe]; exact hrun), .inl rfl, r1, r2, ?_, r4⟩
        have := V.arr 0 src.length (grownCap w src.length 0 el) r3 hcap (by omega)
        simpa using this
    · rename_i l v i len hes
      split
      · rename_i v' sz rows hl
        intro hp
        obtain ⟨hv, hil, hsze, hk2, hsz, hby, hz, hw, hfit⟩ := hp
        subst hv
        subst hsze
        rw [hes] at hs
        obtain ⟨g, ad, c, hxe, hne, hval⟩ := src_rel hg hx hsrc hw
        have hS := src_of (P := P) (w := w) hk2 (c := c) hne hw (fun i j row y h1 h2 => (hval i j row y h1 h2).2)
        obtain ⟨z, hz⟩ := Option.isSome_iff_exists.1 hz
        obtain ⟨i0, v0, q1, q2, q3, q4, q5, q6, q7⟩ := ty_zero hz
        have hb : i0.bytes = (tyOf P el).bytes := by unfold tyOf; rw [q1]
        have hdl : (rows.drop i).length = len := by simp; omega
        have hmul : len + src.length ≤ (len + src.length) * (tyOf P el).bytes := Nat.le_mul_of_pos_right _ hby
        -- a new row
        have hgrow : ∀ (base : Option Addr) (cap : Nat), a.eval s = .slice base len cap → cap < len + src.length → (∃ G : Nat → Nat → Value, (Builtin.firstCells i0.size len (.slice base len cap)).run P w.drew = .ok (flatG G len (tyOf P el).size).toArray w.drew ∧ (∀ row, row ∈ rows.drop i → row.length = (tyOf P el).size) ∧
            ∀ i' j row y, (rows.drop i)[i']? = some row → row[j]? = some y → V L y (G i' j) ∧ (G i' j).oneCell' = true) →
            ∃ nx x w' L', (execOp a.eval o).run P w = .ok nx w' ∧ (nx = .value x ∨ (nx = .skip ∧ x = undef)) ∧ Ext L L' ∧ L'.R = L.R ∧ V L' (.arr l (v + 1) 0 (len + src.length)) x ∧ Good L' (upd h l (some (.cells (v + 1) (tyOf P el).size (rows.drop i ++ src)))) n w' := by
          intro base cap hae hlt hG
          obtain ⟨G, hG1, hGw, hG2⟩ := hG
          have hrun := run_append_grow_src (P := P) w t t2 o.type el i0 v0 (ty_slice hk) q1 q2 base len cap _ hG1 (.slice ad src.length c) src.length (flatG g src.length (tyOf P el).size) (by rw [q5]; exact hS) (by omega) (by omega)
            (by have := nextslicecap_le (need := len + src.length) (old := cap) hlt; have h2 := Nat.mul_le_mul_right i0.bytes this; rw [hb] at h2 ⊢; rw [Nat.mul_assoc] at h2; omega)
          have hcap : len + src.length ≤ grownCap w (len + src.length) cap el := Nat.le_add_right _ _
          have hgr := rows_grown (L := L) (olds := rows.drop i) (src := src) (sz := (tyOf P el).size) hGw hw G g (Builtin.zeroCells v0.cells (grownCap w (len + src.length) cap el - (len + src.length))) hG2 hval
          rw [hdl] at hgr
          have hzs : (Builtin.zeroCells v0.cells (grownCap w (len + src.length) cap el - (len + src.length))).size = (grownCap w (len + src.length) cap el - (len + src.length)) * (tyOf P el).size := by simp [Builtin.zeroCells, q4, q5]
          obtain ⟨L', r1, r2, r3, r4⟩ := hg.rever (w' := w.drew.alloc (.cells ((flatG G len (tyOf P el).size ++ flatG g src.length (tyOf P el).size).toArray ++ Builtin.zeroCells v0.cells (grownCap w (len + src.length) cap el - (len + src.length))) el)) hl (rows.drop i ++ src) (.at w.heap.size 0 (tyOf P el).size (grownCap w (len + src.length) cap el))
            (.inr ⟨_, _, _, _, _, rfl, heap_alloc_at w.drew _, R_lt hg, by
              rw [Array.size_append, hzs, List.size_toArray, List.length_append, flatG_length, flatG_length, ← Nat.add_mul, ← Nat.add_mul, Nat.zero_add]
              exact Nat.mul_le_mul_right _ (by omega), by rw [List.length_append, hdl]; exact hcap, hgr, .inl (Nat.le_refl _)⟩)
            (fun k ob _ hk => heap_alloc_lt w.drew _ hk) (hg.env.drew.alloc _ fun _ _ _ e => by injection e with _ _ e; exact e.symm)
          refine ⟨_, .slice (some ⟨w.heap.size, 0, none⟩) (len + src.length) (grownCap w (len + src.length) cap el), _, L', exec_append ho (by rw [hae, hxe]; exact hrun), .inl rfl, r1, r2, ?_, r4⟩
          have := V.arr 0 (len + src.length) (grownCap w (len + src.length) cap el) r3 hcap (by omega)
          simpa using this
        generalize hae : a.eval s = u at hs
        cases hs with
        | arrN hpl =>
          obtain ⟨own, gh, hob⟩ := hg.obs
          have hrows : rows = [] := by
            rcases (hob l _ hl).2 with ⟨_, h2⟩ | ⟨b, o', cap, c', e', h2, _⟩
            · exact h2
            · rw [hpl] at h2; cases h2
          subst hrows
          by_cases h0 : src = []
          · subst h0
            obtain ⟨L', r1, r2, r3, r4⟩ := hg.rever (w' := w) hl [] .nil (.inl ⟨rfl, rfl⟩) (fun _ _ _ hk => hk) hg.env
            refine ⟨_, .slice none 0 0, w, L', exec_append (u := .slice none 0 0) ho ?_, .inl rfl, r1, r2, .arrN r3, by simpa using r4⟩
            rw [hae, hxe]
            simp only [List.length_nil] at hS ⊢
            rcases hS.kind with ⟨e', hk'⟩ | hk' <;> simp [Builtin.append_, run_underlying (ty_slice hk), run_underlying hk', sizeOf, typeInfo, q1, hS.len, Builtin.lenOf]
            all_goals (cases ad <;> simp [Builtin.firstCells, loadCells, loadCellsFrom, storeCells])
          · have hpos : 0 < src.length := List.length_pos_iff.2 h0
            exact hgrow none 0 hae (by omega) ⟨fun _ _ => undef, by simp [flatG, Builtin.firstCells], by simp, by simp⟩
        | arrE _ ad' hpl =>
          rename_i b o' sz' cap
          obtain rfl := hg.szeq hl hpl
          have hdn : rows.drop i = [] := List.eq_nil_of_length_eq_zero hdl
          by_cases h0 : src = []
          · subst h0
            have hrun : (Builtin.append_ #[t, t2] o.type #[.slice (some ad') 0 0, .slice ad 0 c]).run P w = .ok (.slice (some ad') 0 0) w := by
              simp only [List.length_nil] at hS
              rcases hS.kind with ⟨e', hk'⟩ | hk' <;> simp [Builtin.append_, run_underlying (ty_slice hk), run_underlying hk', sizeOf, typeInfo, q1, hS.len, Builtin.lenOf]
              all_goals (cases ad <;> simp [Builtin.firstCells, loadCells, loadCellsFrom, storeCells])
            obtain ⟨own, gh, hob⟩ := hg.obs
            rcases (hob l _ hl).2 with ⟨h2, _⟩ | ⟨b', o'', cap', c', e', h2, h3, h4, h5, h6, h7, h8⟩
            · rw [hpl] at h2; cases h2
            · rw [hpl] at h2
              cases h2
              obtain ⟨L', r1, r2, r3, r4⟩ := hg.rever (w' := w) hl [] (.at b o' (tyOf P el).size cap) (.inr ⟨b, o', cap, c', e', rfl, h3, h5, h6, Nat.zero_le _, ⟨fun _ h => (by cases h), fun i j row x h1 => by simp at h1⟩, .inr ⟨_, _, hpl⟩⟩) (fun _ _ _ hk => hk) hg.env
              refine ⟨_, .slice (some ad') 0 0, w, L', exec_append (u := .slice (some ad') 0 0) ho (by rw [hae, hxe]; exact hrun), .inl rfl, r1, r2, .arrE 0 _ r3, ?_⟩
              rw [hdn]; exact r4
          · have hpos : 0 < src.length := List.length_pos_iff.2 h0
            exact hgrow (some ad') 0 hae (by omega) ⟨fun _ _ => undef, by simp [flatG, Builtin.firstCells, loadCells, loadCellsFrom], by rw [hdn]; simp, by rw [hdn]; simp⟩
        | arr _ _ c' hpl hl' hc =>
          rename_i b o' sz' cap
          obtain rfl := hg.szeq hl hpl
          obtain ⟨own, gh, hob⟩ := hg.obs
          rcases (hob l _ hl).2 with ⟨h2, _⟩ | ⟨b', o'', cap', cb, e', h2, h3, h4, h5, h6, h7, h8⟩
          · rw [hpl] at h2; cases h2
          rw [hpl] at h2
          cases h2
          have hcm : (i + c') * (tyOf P el).size ≤ cap * (tyOf P el).size := Nat.mul_le_mul_right _ hc
          rw [Nat.add_mul] at hcm
          have hrd := h8.drop i
          by_cases hroom : len + src.length ≤ c'
          · have hrm : (len + src.length) * (tyOf P el).size ≤ c' * (tyOf P el).size := Nat.mul_le_mul_right _ hroom
            rw [Nat.add_mul] at hrm
            have hrun := run_append_room_src (P := P) w t t2 o.type el i0 (ty_slice hk) q1 b (o' + i * (tyOf P el).size) len c' (.slice ad src.length c) src.length (flatG g src.length (tyOf P el).size) (by rw [q5]; exact hS) hroom
              (fun j hj => by rw [flatG_length] at hj; rw [q5, cell?_of_heap h3]; simp; omega) (fun j hj => by rw [q5]; exact frozen?_of_heap h3)
            rw [q5] at hrun
            have hin : o' + i * (tyOf P el).size + len * (tyOf P el).size + (flatG g src.length (tyOf P el).size).length ≤ cb.size := by rw [flatG_length]; omega
            have hR : RowsAt L (setL cb (o' + i * (tyOf P el).size + len * (tyOf P el).size) (flatG g src.length (tyOf P el).size)) (o' + i * (tyOf P el).size) (tyOf P el).size (rows.drop i ++ src) := by
              refine RowsAt.of (fun i' j => if i' < len then cb.getD (o' + i * (tyOf P el).size + i' * (tyOf P el).size + j) undef else g (i' - len) j) (fun row h => by rcases List.mem_append.1 h with h | h; exact hrd.1 row h; exact hw row h) (fun i' j hi' hj => ?_) (fun i' j row y hi' hj => ?_)
              · rw [List.length_append, hdl] at hi'
                rw [getD_setL _ _ _ _ _ hin, flatG_length]
                by_cases hlt : i' < len
                · have hm2 := row_lt (sz := (tyOf P el).size) (m := 0) hlt
                  rw [if_pos hlt, if_neg (by omega)]
                · have hm2 := row_lt (sz := (tyOf P el).size) (m := 0) (show i' - len < src.length by omega)
                  have e1 : i' * (tyOf P el).size = len * (tyOf P el).size + (i' - len) * (tyOf P el).size := by rw [← Nat.add_mul]; congr 1; omega
                  rw [if_neg hlt, if_pos (by omega), List.getD_eq_getElem?_getD]
                  rw [show o' + i * (tyOf P el).size + i' * (tyOf P el).size + j - (o' + i * (tyOf P el).size + len * (tyOf P el).size) = (i' - len) * (tyOf P el).size + j by omega]
                  rw [flatG_get g (by omega) hj]; rfl
              · by_cases hlt : i' < len
                · rw [if_pos hlt]
                  rw [List.getElem?_append_left (by omega)] at hi'
                  exact hrd.2 i' j row y hi' hj
                · rw [if_neg hlt]
                  rw [List.getElem?_append_right (by omega), hdl] at hi'
                  exact hval _ j row y hi' hj
            obtain ⟨L', r1, r2, r3, r4⟩ := hg.rever (w' := w.setCells b (o' + i * (tyOf P el).size + len * (tyOf P el).size) (flatG g src.length (tyOf P el).size)) hl (rows.drop i ++ src) (.at b (o' + i * (tyOf P el).size) (tyOf P el).size (cap - i))
              (.inr ⟨b, _, _, _, _, rfl, heap_setCells _ w b _ cb e' _ h3, h5, by
                rw [size_setL, Nat.sub_mul]
                have := Nat.mul_le_mul_right (tyOf P el).size (show i ≤ cap by omega)
                omega, by rw [List.length_append, hdl]; omega, hR, .inr ⟨_, _, hpl⟩⟩)
              (fun k ob hk hkb => by rw [heap_setCells_ne _ _ _ _ (fun e => hk o' cap (by rw [e]; exact hpl))]; exact hkb) (hg.env.setCells _ _ _ _)
            refine ⟨_, .slice (some ⟨b, o' + i * (tyOf P el).size, none⟩) (len + src.length) c', _, L', exec_append ho (by rw [hae, hxe]; exact hrun), .inl rfl, r1, r2, ?_, r4⟩
            have := V.arr 0 (len + src.length) c' r3 hroom (by omega)
            simpa using this
          · refine hgrow (some ⟨b, o' + i * (tyOf P el).size, none⟩) c' hae (by omega) ⟨fun i' j => cb.getD (o' + i * (tyOf P el).size + i' * (tyOf P el).size + j) undef, ?_, fun row h => hrd.1 row h, fun i' j row y hi' hj => hrd.2 i' j row y hi' hj⟩
            refine run_firstCells_some w.drew _ _ _ _ _ _ (by rw [flatG_length, q5]) fun m u hm => ?_
            obtain ⟨m1, m2, m3, rfl⟩ := flatG_inv _ hm
            have hm2 := row_lt (sz := (tyOf P el).size) (m := 0) (show m / (tyOf P el).size < c' by omega)
            rw [Addr_add]
            show w.cell? _ = _
            rw [cell?_of_heap h3]
            have e1 : o' + i * (tyOf P el).size + m = o' + i * (tyOf P el).size + m / (tyOf P el).size * (tyOf P el).size + m % (tyOf P el).size := by omega
            rw [← e1]
            have : o' + i * (tyOf P el).size + m < cb.size := by omega
            simp [Array.getD_eq_getD_getElem?, this]
      · exact Snd.bad
    · exact Snd.bad
  · exact Snd.bad
end
end Go.AM
