/- An abstract machine over the model: what is known of some calls, as a table. -/
import Derived.Test.YtdocdnmbmikefaaAmJ
set_option linter.unusedVariables false
set_option linter.unusedSimpArgs false
namespace Go.AM
mutual
def eqD : D → D → Bool
  | .int k n, .int k' n' => decide (k = k') && decide (n = n')
  | .bool b, .bool b' => b == b'
  | .str s, .str s' => decide (s = s')
  | .nilS, .nilS => true
  | .nilP, .nilP => true
  | .nilM, .nilM => true
  | .nilF, .nilF => true
  | .nilI, .nilI => true
  | .roZ, .roZ => true
  | .ro xs, .ro ys => eqDD xs ys
  | _, _ => false
def eqDs : List D → List D → Bool
  | [], [] => true
  | x :: xs, y :: ys => eqD x y && eqDs xs ys
  | _, _ => false
def eqDD : List (List D) → List (List D) → Bool
  | [], [] => true
  | x :: xs, y :: ys => eqDs x y && eqDD xs ys
  | _, _ => false
end
mutual
theorem eqD_ok : ∀ (x y : D), eqD x y = true → x = y
  | .int k n, y, h => by
    cases y <;> simp only [eqD] at h <;> first | (cases h; done) | (simp only [Bool.and_eq_true, decide_eq_true_eq] at h; rw [h.1, h.2])
  | .bool b, y, h => by
    cases y <;> simp only [eqD] at h <;> first | (cases h; done) | (simp only [beq_iff_eq] at h; rw [h])
  | .str s, y, h => by
    cases y <;> simp only [eqD] at h <;> first | (cases h; done) | (simp only [decide_eq_true_eq] at h; rw [h])
  | .nilS, y, h => by cases y <;> simp only [eqD] at h <;> first | (cases h; done) | rfl
  | .nilP, y, h => by cases y <;> simp only [eqD] at h <;> first | (cases h; done) | rfl
  | .nilM, y, h => by cases y <;> simp only [eqD] at h <;> first | (cases h; done) | rfl
  | .nilF, y, h => by cases y <;> simp only [eqD] at h <;> first | (cases h; done) | rfl
  | .nilI, y, h => by cases y <;> simp only [eqD] at h <;> first | (cases h; done) | rfl
  | .roZ, y, h => by cases y <;> simp only [eqD] at h <;> first | (cases h; done) | rfl
  | .ro xs, y, h => by
    cases y <;> simp only [eqD] at h <;> first | (cases h; done) | (rename_i ys; rw [eqDD_ok xs ys h])
theorem eqDs_ok : ∀ (xs ys : List D), eqDs xs ys = true → xs = ys
  | [], [], _ => rfl
  | [], _ :: _, h => by simp only [eqDs] at h; cases h
  | _ :: _, [], h => by simp only [eqDs] at h; cases h
  | x :: xs, y :: ys, h => by
    simp only [eqDs, Bool.and_eq_true] at h
    rw [eqD_ok x y h.1, eqDs_ok xs ys h.2]
theorem eqDD_ok : ∀ (xs ys : List (List D)), eqDD xs ys = true → xs = ys
  | [], [], _ => rfl
  | [], _ :: _, h => by simp only [eqDD] at h; cases h
  | _ :: _, [], h => by simp only [eqDD] at h; cases h
  | x :: xs, y :: ys, h => by
    simp only [eqDD, Bool.and_eq_true] at h
    rw [eqDs_ok x y h.1, eqDD_ok xs ys h.2]
end
def eqC1 : List AV → List D → Bool
  | [], [] => true
  | .d x :: r, y :: ys => eqD x y && eqC1 r ys
  | _, _ => false
theorem eqC1_ok : ∀ (l : List AV) (ys : List D), eqC1 l ys = true → l = ys.map .d
  | [], [], _ => rfl
  | .d x :: r, y :: ys, h => by
    simp only [eqC1, Bool.and_eq_true] at h
    rw [eqD_ok x y h.1, eqC1_ok r ys h.2]; rfl
  | [], _ :: _, h => by simp only [eqC1] at h; cases h
  | .d _ :: _, [], h => by simp only [eqC1] at h; cases h
  | .rp _ :: _, _, h => by simp only [eqC1] at h; cases h
  | .ptr _ _ _ _ :: _, _, h => by simp only [eqC1] at h; cases h
  | .arr _ _ _ _ :: _, _, h => by simp only [eqC1] at h; cases h
  | .map _ :: _, _, h => by simp only [eqC1] at h; cases h
  | .itr _ :: _, _, h => by simp only [eqC1] at h; cases h
  | .yld _ :: _, _, h => by simp only [eqC1] at h; cases h
  | .fn _ _ _ :: _, _, h => by simp only [eqC1] at h; cases h
  | .agg _ :: _, _, h => by simp only [eqC1] at h; cases h
  | .tup _ :: _, _, h => by simp only [eqC1] at h; cases h
  | .opt _ _ :: _, _, h => by simp only [eqC1] at h; cases h
  | .any :: _, _, h => by simp only [eqC1] at h; cases h
/-- An argument's data: bare, or cells. -/
inductive AD where
  | one (x : D)
  | agg (l : List D)
def AD.v : AD → AV
  | .one x => .d x
  | .agg l => .agg (l.map .d)
def eqAD : AV → AD → Bool
  | .d x, .one y => eqD x y
  | .agg cs, .agg l => eqC1 cs l
  | _, _ => false
theorem eqAD_ok {x : AV} {y : AD} (h : eqAD x y = true) : x = y.v := by
  unfold eqAD at h
  split at h
  · rw [eqD_ok _ _ h]; rfl
  · rw [eqC1_ok _ _ h]; rfl
  · cases h
def eqADs : List AV → List AD → Bool
  | [], [] => true
  | x :: xs, y :: ys => eqAD x y && eqADs xs ys
  | _, _ => false
theorem eqADs_ok : ∀ {xs : List AV} {ys : List AD}, eqADs xs ys = true → xs = ys.map AD.v
  | [], [], _ => rfl
  | x :: xs, y :: ys, h => by
    simp only [eqADs, Bool.and_eq_true] at h
    rw [eqAD_ok h.1, eqADs_ok h.2]; rfl
  | [], _ :: _, h => by cases h
  | _ :: _, [], h => by cases h
def memo (M : FuncId → List AV → Option AV) (f : FuncId) (as : List AD) (v : AV) : FuncId → List AV → Option AV := fun f' xs => match Nat.beq f' f && eqADs xs as with
  | true => some v
  | false => M f' xs
theorem memo_ok {P : Program} {M : FuncId → List AV → Option AV} {f : FuncId} {as : List AD} {v : AV} (hM : MemoOK P M) (h : Pure P f (as.map AD.v) v) : MemoOK P (memo M f as v) := fun f' xs w hw => by
  unfold memo at hw
  split at hw
  · rename_i hb
    simp only [Bool.and_eq_true] at hb
    cases hw
    rw [Nat.eq_of_beq_eq_true hb.1, eqADs_ok hb.2]
    exact h
  · exact hM _ _ _ hw
end Go.AM
