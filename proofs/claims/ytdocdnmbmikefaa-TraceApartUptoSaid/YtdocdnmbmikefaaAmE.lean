/- An abstract machine over the model: equality of structs and arrays of plain cells. -/
import Derived.Test.YtdocdnmbmikefaaAmU
import Derived.ChangeKeysEq
set_option linter.unusedVariables false
set_option linter.unusedSimpArgs false
namespace Go.AM

inductive EK where
  | i | b | s
deriving DecidableEq

def ekOf (P : Program) (t : TypeId) : Option EK :=
  match P.underlying t with
  | some (.int _) => some .i
  | some .bool => some .b
  | some .string => some .s
  | _ => none
/-- A struct's fields from a place on, one cell each. -/
def ekFields (P : Program) : Nat → List Field → Option (List EK)
  | _, [] => some []
  | k, f :: r => match ekOf P f.type with
    | some e => if f.name ≠ "_" ∧ f.offset = k then (ekFields P (k + 1) r).map (e :: ·) else none
    | none => none
/-- What kinds of cells a comparable struct or array has. -/
def ekAgg (P : Program) (t : TypeId) : Option (List EK) :=
  match P.underlying t with
  | some (.struct fs) => if P.stoodInHeld t then none else ekFields P 0 fs.toList
  | some (.array n e) => match ekOf P e with
    | some k => if P.cellsOf e = 1 then some (List.replicate n k) else none
    | none => none
  | _ => none
def eqOf (P : Program) (t : TypeId) : Option (List EK) := if P.eqGuardType P.depth t then none else ekAgg P t

def eqC : EK → AV → AV → Prop × Bool
  | .i, .d (.int k a), .d (.int k' b) => (k = k', a == b)
  | .b, .d (.bool a), .d (.bool b) => (True, a == b)
  | .s, .d (.str a), .d (.str b) => (True, a == b)
  | _, _, _ => (False, false)
def eqF : List EK → List AV → List AV → Prop × Bool
  | [], [], [] => (True, true)
  | k :: ks, x :: xs, y :: ys => ((eqC k x y).1 ∧ (eqF ks xs ys).1, (eqC k x y).2 && (eqF ks xs ys).2)
  | _, _, _ => (False, false)

section
variable {P : Program} {L : Link}

theorem ek_plain {t : TypeId} {k : EK} (h : ekOf P t = some k) : P.plainKey t = true := by
  unfold ekOf at h
  unfold Program.plainKey
  split at h <;> rename_i hu <;> first | (rw [hu]; done) | cases h
theorem eqC_run {t : TypeId} {k : EK} (ht : ekOf P t = some k) {x y : AV} {u v : Value} (hx : V L x u) (hy : V L y v) (hp : (eqC k x y).1) (d : Nat) (w : World) : (Op.equalIn (d + 1) t u v).run P w = .ok (eqC k x y).2 w := by
  unfold ekOf at ht
  unfold eqC at hp ⊢
  split at hp
  · obtain rfl := V_int hx
    obtain rfl := V_int hy
    subst hp
    split at ht <;> rename_i hu <;> first | (cases ht; done) | skip
    exact run_equalIn_int w d t _ _ _ _ hu
  · cases hx with | d hd => cases hd with | bool =>
    cases hy with | d hd => cases hd with | bool =>
    split at ht <;> rename_i hu <;> first | (cases ht; done) | skip
    exact run_equalIn_bool w d t _ _ hu
  · cases hx with | d hd => cases hd with | str =>
    cases hy with | d hd => cases hd with | str =>
    split at ht <;> rename_i hu <;> first | (cases ht; done) | skip
    rw [run_equalIn_string w d t _ _ hu]
    rw [beq_toListBytes]
  · exact hp.elim

theorem getD_some {us : Array Value} {i : Nat} (h : i < us.size) : us[i]? = some (us.getD i undef) := by
  simp [Array.getD_eq_getD_getElem?, Array.getElem?_eq_getElem h]

theorem eqFields_run (d : Nat) (us vs : Array Value) (w : World) : ∀ (fs : List Field) (ks : List EK) (k : Nat) (xs ys : List AV), ekFields P k fs = some ks → (eqF ks xs ys).1 → k + xs.length ≤ us.size → k + ys.length ≤ vs.size →
    (∀ j x, xs[j]? = some x → V L x (us.getD (k + j) undef)) → (∀ j y, ys[j]? = some y → V L y (vs.getD (k + j) undef)) → (Op.eqFields (d + 1) us vs fs).run P w = .ok (eqF ks xs ys).2 w
  | [], ks, k, xs, ys, h, hp, _, _, _, _ => by
    simp only [ekFields, Option.some.injEq] at h
    subst h
    cases xs <;> cases ys <;> first | rfl | exact hp.elim
  | f :: fs, ks, k, xs, ys, h, hp, h1, h2, hx, hy => by
    simp only [ekFields] at h
    split at h
    · rename_i e he
      split at h
      · rename_i hc
        rw [Option.map_eq_some_iff] at h
        obtain ⟨ks', hk, rfl⟩ := h
        match xs, ys, hp with
        | x :: xs, y :: ys, hp =>
          simp only [eqF] at hp ⊢
          have hx0 := hx 0 x rfl
          have hy0 := hy 0 y rfl
          have r1 := run_part_plain (P := P) w (ek_plain he) (xs := us) (off := k) (getD_some (by simp at h1; omega))
          have r2 := run_part_plain (P := P) w (ek_plain he) (xs := vs) (off := k) (getD_some (by simp at h2; omega))
          have r3 := eqC_run he hx0 hy0 hp.1 d w
          have ih := eqFields_run d us vs w fs ks' (k + 1) xs ys hk hp.2 (by simp at h1; omega) (by simp at h2; omega) (fun j x hj => by have := hx (j + 1) x (by simpa using hj); rwa [show k + (j + 1) = k + 1 + j by omega] at this) (fun j y hj => by have := hy (j + 1) y (by simpa using hj); rwa [show k + (j + 1) = k + 1 + j by omega] at this)
          simp only [Op.eqFields, ne_eq, hc.1, not_false_eq_true, if_true, Sem.run_bind, hc.2, r1, r2, Result.andThen_ok]
          rw [show us.getD k undef = us.getD (k + 0) undef from rfl, show vs.getD k undef = vs.getD (k + 0) undef from rfl, r3, Result.andThen_ok]
          cases hb : (eqC e x y).2 with
          | false => simp
          | true => simp only [Bool.not_true, Bool.false_eq_true, if_false, Bool.true_and]; exact ih
      · cases h
    · cases h

theorem eqItems_run (d : Nat) {t : TypeId} {e : EK} (he : ekOf P t = some e) (us vs : Array Value) (w : World) : ∀ (m k : Nat) (xs ys : List AV), (eqF (List.replicate m e) xs ys).1 → k + xs.length ≤ us.size → k + ys.length ≤ vs.size →
    (∀ j x, xs[j]? = some x → V L x (us.getD (k + j) undef)) → (∀ j y, ys[j]? = some y → V L y (vs.getD (k + j) undef)) → (Op.eqItems (d + 1) t 1 us vs (List.range' k m)).run P w = .ok (eqF (List.replicate m e) xs ys).2 w
  | 0, k, xs, ys, hp, _, _, _, _ => by
    simp only [List.replicate_zero] at hp ⊢
    cases xs <;> cases ys <;> first | rfl | exact hp.elim
  | m + 1, k, xs, ys, hp, h1, h2, hx, hy => by
    simp only [List.replicate_succ] at hp ⊢
    match xs, ys, hp with
    | x :: xs, y :: ys, hp =>
      simp only [eqF] at hp ⊢
      have hx0 := hx 0 x rfl
      have hy0 := hy 0 y rfl
      have r1 := run_part_plain (P := P) w (ek_plain he) (xs := us) (off := k) (getD_some (by simp at h1; omega))
      have r2 := run_part_plain (P := P) w (ek_plain he) (xs := vs) (off := k) (getD_some (by simp at h2; omega))
      have r3 := eqC_run he hx0 hy0 hp.1 d w
      have ih := eqItems_run d he us vs w m (k + 1) xs ys hp.2 (by simp at h1; omega) (by simp at h2; omega) (fun j x hj => by have := hx (j + 1) x (by simpa using hj); rwa [show k + (j + 1) = k + 1 + j by omega] at this) (fun j y hj => by have := hy (j + 1) y (by simpa using hj); rwa [show k + (j + 1) = k + 1 + j by omega] at this)
      simp only [List.range'_succ, Op.eqItems, Sem.run_bind, Nat.mul_one, r1, r2, Result.andThen_ok]
      rw [show us.getD k undef = us.getD (k + 0) undef from rfl, show vs.getD k undef = vs.getD (k + 0) undef from rfl, r3, Result.andThen_ok]
      cases hb : (eqC e x y).2 with
      | false => simp
      | true => simp only [Bool.not_true, Bool.false_eq_true, if_false, Bool.true_and]; exact ih

theorem equalIn_agg {t : TypeId} {ks : List EK} (ht : ekAgg P t = some ks) {xs ys : List AV} {us vs : Array Value} (hx : V L (.agg xs) (.agg us)) (hy : V L (.agg ys) (.agg vs)) (hp : (eqF ks xs ys).1) (d : Nat) (w : World) :
    (Op.equalIn (d + 2) t (.agg us) (.agg vs)).run P w = .ok (eqF ks xs ys).2 w := by
  cases hx with
  | agg _ _ h1 h2 =>
  cases hy with
  | agg _ _ h3 h4 =>
  unfold ekAgg at ht
  split at ht
  · rename_i fs hu
    split at ht
    · cases ht
    · rename_i hs
      have hf : P.fieldsOf t = fs := by simp [Program.fieldsOf, hu]
      rw [run_equalIn_struct w (d + 1) t us vs (by rw [hf]; exact hu) (by simpa using hs), hf]
      exact eqFields_run d us vs w fs.toList ks 0 xs ys ht hp (by omega) (by omega) (fun j x hj => by rw [Nat.zero_add]; exact h2 j x hj) (fun j x hj => by rw [Nat.zero_add]; exact h4 j x hj)
  · rename_i n e hu
    split at ht
    · rename_i k he
      split at ht
      · rename_i hc
        cases ht
        obtain ⟨i, hi⟩ := info_of_underlying (P := P) (t := e) (d := (P.underlying e).getD default) (by
          unfold ekOf at he
          cases hq : P.underlying e with
          | none => rw [hq] at he; cases he
          | some d => rfl)
        rw [run_equalIn_array w (d + 1) us vs hu hi, hc, List.range_eq_range']
        exact eqItems_run d he us vs w n 0 xs ys hp (by omega) (by omega) (fun j x hj => by rw [Nat.zero_add]; exact h2 j x hj) (fun j x hj => by rw [Nat.zero_add]; exact h4 j x hj)
      · cases ht
    · cases ht
  · cases ht

/-! ### as an operation -/
variable {a : Act} {w : World} {o : Oper} {h : AHeap} {n : Nat} {e : Operand → AV}
def sBin2 (P : Program) (op : BinOp) (t : TypeId) (x y : AV) (h : AHeap) (n : Nat) : R1 :=
  match x, y with
  | .agg xs, .agg ys => match eqOf P t with
    | some ks => match op with
      | .eql => ⟨(eqF ks xs ys).1, .d (.bool (eqF ks xs ys).2), h, n⟩
      | .neq => ⟨(eqF ks xs ys).1, .d (.bool (!(eqF ks xs ys).2)), h, n⟩
      | _ => bad h n
    | none => bad h n
  | x, y => sBin P op t x y h n
theorem snd_bin2 {op : BinOp} {t : TypeId} {x y : Operand} {ty : TypeId} (ho : o.op = .binOp op t x y ty) (hg : Good L h n w) (hx : V L (e x) (a.eval x)) (hy : V L (e y) (a.eval y)) : Snd P L a w o (sBin2 P op t (e x) (e y) h n) := by
  unfold sBin2
  split
  · rename_i xs ys h1 h2
    rw [h1] at hx
    rw [h2] at hy
    split
    · rename_i ks hk
      unfold eqOf at hk
      split at hk
      · cases hk
      · rename_i hgd
        have hgd : P.eqGuardType P.depth t = false := by simpa using hgd
        generalize hu : a.eval x = u at hx
        generalize hv : a.eval y = v at hy
        cases hx with
        | agg _ us q1 q2 =>
        cases hy with
        | agg _ vs q3 q4 =>
        have hrun : (eqF ks xs ys).1 → ∀ w : World, (Op.equalIn 10000 t (.agg us) (.agg vs)).run P w = .ok (eqF ks xs ys).2 w := fun hp w => equalIn_agg hk (.agg _ _ q1 q2) (.agg _ _ q3 q4) hp 9998 w
        split
        · refine Snd.quiet hg fun hp => ⟨rfl, rfl, _, ?_, .d (.bool _)⟩
          unfold execOp
          simp only [ho, hu, hv, Sem.run_bind, run_eqGuard_agg w _ _ _ _ _ _ hgd, Result.andThen_ok, run_eql_struct, hrun hp, Sem.run_pure]
        · refine Snd.quiet hg fun hp => ⟨rfl, rfl, _, ?_, .d (.bool _)⟩
          unfold execOp
          simp only [ho, hu, hv, Sem.run_bind, run_eqGuard_agg w _ _ _ _ _ _ hgd, Result.andThen_ok, run_neq_struct, hrun hp, Sem.run_pure]
        · exact Snd.bad
    · exact Snd.bad
  · exact snd_bin ho hg hx hy
end
end Go.AM
