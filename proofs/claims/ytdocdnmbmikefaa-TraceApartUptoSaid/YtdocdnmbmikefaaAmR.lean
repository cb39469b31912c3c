/- An abstract machine over the model: elements, slices, append, the other builtins. -/
import Derived.Test.YtdocdnmbmikefaaAmQ
set_option linter.unusedVariables false
set_option linter.unusedSimpArgs false
namespace Go.AM
section
variable {P : Program} {L : Link} {a : Act} {w : World} {o : Oper} {h : AHeap} {n : Nat} {e : Operand → AV}

/-! #### elements -/
def sIdxAddr (P : Program) (T : TI) (x i : AV) (h : AHeap) (n : Nat) : R1 :=
  match T.k, i with
  | .slice el, .d (.int _ i) => match x with
    | .d (.ro xs) => ⟨0 ≤ i ∧ i < xs.length ∧ (xs.getD i.toNat []).length = (tyOf P el).size ∧ (tyOf P el).k ≠ .other, .rp (xs.getD i.toNat []), h, n⟩
    | .arr l v k len => match h l with
      | some (.cells v' sz rows) => ⟨0 ≤ i ∧ i < len ∧ v = v' ∧ k + i.toNat < rows.length ∧ sz = (tyOf P el).size ∧ (tyOf P el).k ≠ .other, .ptr l v (k + i.toNat) 0, h, n⟩
      | _ => bad h n
    | _ => bad h n
  | .array m el, .d (.int _ i) => match x with
    | .ptr l v k off => ⟨0 ≤ i ∧ i < m ∧ (tyOf P el).k ≠ .other, .ptr l v k (off + i.toNat * (tyOf P el).size), h, n⟩
    | .rp cs => ⟨0 ≤ i ∧ i < m ∧ (tyOf P el).k ≠ .other, .rp (cs.drop (i.toNat * (tyOf P el).size)), h, n⟩
    | _ => bad h n
  | _, _ => bad h n
theorem snd_idxAddr {t : TypeId} {x i : Operand} (ho : o.op = .indexAddr t x i) (hg : Good L h n w) (hx : V L (e x) (a.eval x)) (hi : V L (e i) (a.eval i)) : Snd P L a w o (sIdxAddr P (tyOf P t) (e x) (e i) h n) := by
  unfold sIdxAddr
  split
  · rename_i el k m hk h1
    rw [h1] at hi
    have hi := V_int hi
    have hrun : ∀ (ad : Addr) (len c : Nat), a.eval x = .slice (some ad) len c → 0 ≤ m → m < len → (tyOf P el).k ≠ .other → (execOp a.eval o).run P w = .ok (.value (.pointer (some (ad.add (m.toNat * (tyOf P el).size))))) w := fun ad len c hae h0 hlt hne => by
      unfold execOp
      simp [ho, hae, hi, Instr.indexAt, asIntOf, run_underlying (ty_slice hk), h0, hlt, run_sz hne]
    split
    · rename_i xs h2
      rw [h2] at hx
      refine Snd.quiet hg fun hp => ⟨rfl, rfl, ?_⟩
      obtain ⟨h3, h4, h5, h6⟩ := hp
      generalize hae : a.eval x = u at hx
      cases hx with
      | d hd =>
        cases hd with
        | roN => simp at h4; omega
        | roE => simp at h4; omega
        | ro _ b o cap sz f hl hw hc hv =>
          have hm : m.toNat < xs.length := by omega
          have hrow : xs[m.toNat]? = some (xs.getD m.toNat []) := by simp [List.getD_eq_getElem?_getD, hm]
          have hsz : sz = (tyOf P el).size := by rw [← h5]; exact (hw _ (List.mem_of_getElem? hrow)).symm
          subst hsz
          refine ⟨_, hrun _ _ _ hae h3 (by simpa using h4) h6, ?_⟩
          rw [Addr_add]
          exact .rp _ _ _ (fun j => f m.toNat j) fun j c hj => ⟨hc m.toNat j hm (by have := (List.getElem?_eq_some_iff.1 hj).1; omega), hv m.toNat j c _ hrow hj⟩
    · rename_i l v k len h2
      rw [h2] at hx
      split
      · rename_i v' sz0 rows hl
        refine Snd.quiet hg fun hp => ⟨rfl, rfl, ?_⟩
        obtain ⟨h3, h4, hv, h5, h6, h7⟩ := hp
        subst hv
        have hrow : rows[k + m.toNat]? = some (rows.getD (k + m.toNat) []) := by simp [List.getD_eq_getElem?_getD, h5]
        generalize hae : a.eval x = u at hx
        cases hx with
        | arr _ _ c hpl hl' hc =>
          rename_i b o sz cap
          obtain rfl := hg.szeq hl hpl
          subst h6
          refine ⟨_, hrun _ _ _ hae h3 h4 h7, ?_⟩
          rw [Addr_add, Nat.add_assoc, ← Nat.add_mul]
          have := V.ptr (k + m.toNat) 0 hpl
          simpa using this
        | arrN => simp at h4; omega
        | arrE => simp at h4; omega
      · exact Snd.bad
    · exact Snd.bad
  · rename_i q el k m hk h1
    rw [h1] at hi
    have hi := V_int hi
    have hrun : ∀ (ad : Addr), a.eval x = .pointer (some ad) → 0 ≤ m → m < q → (tyOf P el).k ≠ .other → (execOp a.eval o).run P w = .ok (.value (.pointer (some (ad.add (m.toNat * (tyOf P el).size))))) w := fun ad hae h0 hlt hne => by
      unfold execOp
      simp [ho, hae, hi, Instr.indexAt, asIntOf, run_underlying (ty_array hk), Instr.sureAddr, h0, hlt, run_sz hne]
    split
    · rename_i l v k off h2
      rw [h2] at hx
      refine Snd.quiet hg fun hp => ⟨rfl, rfl, ?_⟩
      obtain ⟨h3, h4, h5⟩ := hp
      generalize hae : a.eval x = u at hx
      cases hx with
      | ptr _ _ hpl => exact ⟨_, hrun _ hae h3 h4 h5, by rw [Addr_add]; have := V.ptr k (off + m.toNat * (tyOf P el).size) hpl; rw [← Nat.add_assoc] at this; exact this⟩
    · rename_i cs h2
      rw [h2] at hx
      refine Snd.quiet hg fun hp => ⟨rfl, rfl, ?_⟩
      obtain ⟨h3, h4, h5⟩ := hp
      generalize hae : a.eval x = u at hx
      cases hx with
      | rp _ b k fv hc => exact ⟨_, hrun _ hae h3 h4 h5, by rw [Addr_add]; exact rp_drop hc _⟩
    · exact Snd.bad
  · exact Snd.bad

def sExtract (x : AV) (i : Nat) (h : AHeap) (n : Nat) : R1 :=
  match x with
  | .tup vs => ⟨i < vs.length, vs.getD i .any, h, n⟩
  | _ => bad h n
theorem snd_extract {x : Operand} {i : Nat} (ho : o.op = .extract x i) (hg : Good L h n w) (hx : V L (e x) (a.eval x)) : Snd P L a w o (sExtract (e x) i h n) := by
  unfold sExtract
  split
  · rename_i vs h1
    rw [h1] at hx
    refine Snd.quiet hg fun hp => ⟨rfl, rfl, ?_⟩
    have hp' : i < vs.length := hp
    generalize hae : a.eval x = u at hx
    cases hx with
    | tup _ us hs hv =>
      refine ⟨us.getD i undef, ?_, hv i _ (by rw [List.getD_eq_getElem?_getD, List.getElem?_eq_getElem hp']; rfl)⟩
      unfold execOp
      have : i < us.size := by omega
      simp [ho, hae, Instr.extract, Array.getD_eq_getD_getElem?, this]
  · exact Snd.bad

/-! #### slices of slices -/
def loOf : Option AV → Option Int
  | none => some 0
  | some (.d (.int _ i)) => some i
  | _ => none
def hiOf (len : Nat) : Option AV → Option Int
  | none => some len
  | some (.d (.int _ i)) => some i
  | _ => none
def sSlice (P : Program) (T : TI) (x : AV) (lo hi mx : Option AV) (h : AHeap) (n : Nat) : R1 :=
  match T.k, mx with
  | .slice el, none => match x with
    | .d (.ro xs) => match loOf lo, hiOf xs.length hi with
      | some l, some m => ⟨0 ≤ l ∧ l ≤ m ∧ m ≤ xs.length ∧ (l = 0 ∨ (xs.getD 0 []).length = (tyOf P el).size), .d (.ro ((xs.take m.toNat).drop l.toNat)), h, n⟩
      | _, _ => bad h n
    | .arr l' v i len => match loOf lo, hiOf len hi with
      | some l, some m => ⟨0 ≤ l ∧ l ≤ m ∧ m ≤ len ∧ (l = 0 ∨ ∃ sz rows, h l' = some (.cells v sz rows) ∧ sz = (tyOf P el).size), .arr l' v (i + l.toNat) (m.toNat - l.toNat), h, n⟩
      | _, _ => bad h n
    | _ => bad h n
  | _, _ => bad h n
theorem lo_spec {lo : Option Operand} {l : Int} (hx : ∀ z, lo = some z → V L (e z) (a.eval z)) (hl : loOf (lo.map e) = some l) (y : Nat) (h0 : 0 ≤ l) (h1 : l ≤ y) :
    ∀ code, (match lo.map a.eval with | some v => Instr.sliceBound v y code | none => pure 0).run P w = .ok l.toNat w := by
  intro code
  cases lo with
  | none => simp [loOf] at hl; subst hl; rfl
  | some z =>
    have hz := hx z rfl
    simp only [Option.map_some, loOf] at hl ⊢
    split at hl
    · rename_i q; cases q
    · rename_i k i hq
      injection hq with hq
      cases hl
      rw [hq] at hz
      have hz := V_int hz
      rw [hz]
      simp [Instr.sliceBound, asIntOf, h0, h1]
    · cases hl
theorem hi_spec {hi : Option Operand} {m : Int} {len : Nat} (hx : ∀ z, hi = some z → V L (e z) (a.eval z)) (hl : hiOf len (hi.map e) = some m) (y : Nat) (h0 : 0 ≤ m) (h1 : m ≤ y) :
    ∀ code, (match hi.map a.eval with | some v => Instr.sliceBound v y code | none => pure len).run P w = .ok m.toNat w := by
  intro code
  cases hi with
  | none => simp [hiOf] at hl; subst hl; rfl
  | some z =>
    have hz := hx z rfl
    simp only [Option.map_some, hiOf] at hl ⊢
    split at hl
    · rename_i q; cases q
    · rename_i k i hq
      injection hq with hq
      cases hl
      rw [hq] at hz
      have hz := V_int hz
      rw [hz]
      simp [Instr.sliceBound, asIntOf, h0, h1]
    · cases hl
theorem run_sl {t el : TypeId} (hk : (tyOf P t).k = .slice el) (hne : (tyOf P el).k ≠ .other) {x : Operand} {lo hi : Option Operand} (ho : o.op = .slice t x lo hi none) {ad : Option Addr} {len cap : Nat} (hae : a.eval x = .slice ad len cap) (hlc : len ≤ cap) {l m : Int}
    (hxl : ∀ z, lo = some z → V L (e z) (a.eval z)) (hxh : ∀ z, hi = some z → V L (e z) (a.eval z)) (hl : loOf (lo.map e) = some l) (hm : hiOf len (hi.map e) = some m) (h0 : 0 ≤ l) (h1 : l ≤ m) (h2 : m ≤ len) :
    (execOp a.eval o).run P w = .ok (.value (.slice (if cap = l.toNat then ad else ad.map (·.add (l.toNat * (tyOf P el).size))) (m.toNat - l.toNat) (cap - l.toNat))) w := by
  have e1 := hi_spec (P := P) (w := w) hxh hm cap (by omega) (by omega) .sliceAcap
  have e2 := lo_spec (P := P) (w := w) hxl hl m.toNat h0 (by omega) .sliceB
  have e3 : (Instr.sliceBounds true len cap (lo.map a.eval) (hi.map a.eval) none).run P w = .ok (l.toNat, m.toNat, cap) w := by
    unfold Instr.sliceBounds
    cases hq : hi.map a.eval <;> cases hq2 : lo.map a.eval <;> simp [hq, hq2] at e1 e2 <;> first | simp [e1, e2] | simp [e1, ← e2]
  unfold execOp
  simp only [ho, Option.map_none, Instr.sliceAt, Sem.run_bind, run_underlying (ty_slice hk), Result.andThen_ok, Instr.slice, hae, e3, run_sz hne, Sem.run_pure]
theorem snd_slice {t : TypeId} {x : Operand} {lo hi mx : Option Operand} (ho : o.op = .slice t x lo hi mx) (hne : ∀ el, (tyOf P t).k = .slice el → (tyOf P el).k ≠ .other) (hg : Good L h n w) (hx : V L (e x) (a.eval x))
    (hxl : ∀ z, lo = some z → V L (e z) (a.eval z)) (hxh : ∀ z, hi = some z → V L (e z) (a.eval z)) : Snd P L a w o (sSlice P (tyOf P t) (e x) (lo.map e) (hi.map e) (mx.map e) h n) := by
  unfold sSlice
  split
  · rename_i el hk hmx
    obtain rfl : mx = none := by cases mx with | none => rfl | some z => simp at hmx
    split
    · rename_i xs h1
      rw [h1] at hx
      split
      · rename_i l m hl hm
        refine Snd.quiet hg fun hp => ⟨rfl, rfl, ?_⟩
        obtain ⟨h2, h3, h4, h5⟩ := hp
        generalize hae : a.eval x = u at hx
        cases hx with
        | d hd =>
          cases hd with
          | roN => exact ⟨_, run_sl hk (hne el hk) ho hae (Nat.le_refl _) hxl hxh hl hm h2 h3 h4, by
              simp at h4
              obtain rfl : m = 0 := by omega
              obtain rfl : l = 0 := by omega
              simpa using V.d DV.roN⟩
          | roE ad cap => exact ⟨_, run_sl hk (hne el hk) ho hae (Nat.zero_le _) hxl hxh hl hm h2 h3 h4, by
              simp at h4
              obtain rfl : m = 0 := by omega
              obtain rfl : l = 0 := by omega
              simp only [Int.toNat_zero, List.take_nil, List.drop_nil, Nat.sub_zero, Nat.zero_mul]
              split
              · exact .d (.roE _ _)
              · exact .d (.roE _ _)⟩
          | ro _ b o' cap sz f hl' hw hc hv =>
            refine ⟨_, run_sl hk (hne el hk) ho hae hl' hxl hxh hl hm h2 h3 h4, ?_⟩
            have hlen : ((xs.take m.toNat).drop l.toNat).length = m.toNat - l.toNat := by simp; omega
            by_cases hz : m.toNat - l.toNat = 0
            · have : (xs.take m.toNat).drop l.toNat = [] := List.eq_nil_of_length_eq_zero (by omega)
              rw [this, hz]
              split
              · exact .d (.roE _ _)
              · exact .d (.roE _ _)
            · rw [if_neg (by omega)]
              have hx0 : 0 < xs.length := by omega
              have hoff : o' + l.toNat * (tyOf P el).size = o' + l.toNat * sz := by
                rcases h5 with h5 | h5
                · subst h5; simp
                · rw [← h5, hw _ (show xs.getD 0 [] ∈ xs by rw [List.getD_eq_getElem?_getD, List.getElem?_eq_getElem hx0]; exact List.getElem_mem hx0)]
              simp only [Option.map_some]
              rw [Addr_add, hoff, ← hlen]
              refine .d (.ro _ b _ _ sz (fun i j => f (l.toNat + i) j) (by omega) (fun row hr => hw row (List.mem_of_mem_take (List.mem_of_mem_drop hr))) (fun i j hi hj => ?_) (fun i j c row hi hj => ?_))
              · have := hc (l.toNat + i) j (by omega) hj
                rw [Nat.add_mul, ← Nat.add_assoc] at this
                exact this
              · rw [List.getElem?_drop, List.getElem?_take] at hi
                split at hi
                · exact hv _ j c row hi hj
                · cases hi
      · exact Snd.bad
    · rename_i l' v i len h1
      rw [h1] at hx
      split
      · rename_i l m hl hm
        refine Snd.quiet hg fun hp => ⟨rfl, rfl, ?_⟩
        obtain ⟨h2, h3, h4, h5⟩ := hp
        generalize hae : a.eval x = u at hx
        cases hx with
        | arr _ _ c hpl hl' hc =>
          rename_i b o' sz cap
          refine ⟨_, run_sl hk (hne el hk) ho hae hl' hxl hxh hl hm h2 h3 h4, ?_⟩
          by_cases hz : c = l.toNat
          · rw [if_pos hz]
            have hz2 : m.toNat - l.toNat = 0 := by omega
            rw [hz2, hz, Nat.sub_self]
            exact .arrE _ _ hpl
          · rw [if_neg hz]
            have hoff : o' + i * sz + l.toNat * (tyOf P el).size = o' + (i + l.toNat) * sz := by
              rcases h5 with h5 | ⟨sz0, rows, h5, h6⟩
              · subst h5; simp
              · obtain rfl := hg.szeq h5 hpl
                rw [← h6, Nat.add_mul]; omega
            simp only [Option.map_some]
            rw [Addr_add, hoff]
            exact .arr _ _ _ hpl (by omega) (by omega)
        | arrN hpl =>
          refine ⟨_, run_sl hk (hne el hk) ho hae (Nat.le_refl _) hxl hxh hl hm h2 h3 h4, ?_⟩
          simp at h4
          obtain rfl : m = 0 := by omega
          obtain rfl : l = 0 := by omega
          simpa using V.arrN hpl
        | arrE _ ad hpl =>
          refine ⟨_, run_sl hk (hne el hk) ho hae (Nat.le_refl _) hxl hxh hl hm h2 h3 h4, ?_⟩
          simp at h4
          obtain rfl : m = 0 := by omega
          obtain rfl : l = 0 := by omega
          simpa using V.arrE i ad hpl
      · exact Snd.bad
    · exact Snd.bad
  · exact Snd.bad
end
end Go.AM
