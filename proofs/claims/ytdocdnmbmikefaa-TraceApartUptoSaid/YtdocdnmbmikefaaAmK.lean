/- An abstract machine over the model: what is asked of a function's code, once: slots in reach, and open orders that make no difference. -/
import Derived.Test.YtdocdnmbmikefaaAmW
set_option linter.unusedVariables false
set_option linter.unusedSimpArgs false
namespace Go.AM
def tmpsOf : List Operand → List Nat
  | [] => []
  | .tmp t :: r => t :: tmpsOf r
  | _ :: r => tmpsOf r
theorem mem_tmpsOf {t : Nat} : ∀ {l : List Operand}, Operand.tmp t ∈ l → t ∈ tmpsOf l
  | x :: r, h => by
    rcases List.mem_cons.1 h with h | h
    · subst h; simp [tmpsOf]
    · have := mem_tmpsOf h; cases x <;> simp [tmpsOf, this]
/-- What an operation reads of the slots. -/
def readsOf (ops : Array Oper) (o : Oper) : List Nat :=
  tmpsOf o.op.operands.toList ++ (match o.guard with | none => [] | some (j, _) => match (ops[j]?).bind (·.dst) with | some t => [t] | none => [])

def cls : Op → Nat
  | .move _ => 0
  | .assign _ => 0
  | .pick _ _ _ => 0
  | .build _ _ => 0
  | .nilCheck _ => 0
  | .binOp _ _ _ _ _ => 0
  | .unOp _ _ _ => 0
  | .convert _ _ _ => 0
  | .makeFunc _ _ _ => 0
  | .fieldAddr _ _ _ => 0
  | .field _ _ _ => 0
  | .extract _ _ => 0
  | .call ⟨.builtin .max, _, _⟩ => 0
  | .call ⟨.builtin .min, _, _⟩ => 0
  | .load _ _ => 1
  | .slice _ _ _ _ _ => 1
  | .indexAddr _ _ _ => 1
  | .lookup _ _ _ _ => 1
  | .call ⟨.builtin .len, _, _⟩ => 1
  | .call ⟨.value _, _, _⟩ => 1
  | .alloc _ => 2
  | .box _ _ => 2
  | .buildSlice _ _ _ => 2
  | .makeSlice _ _ _ => 2
  | .makeMap _ none => 2
  | _ => 3

/-- Through which operand is read, written. -/
def mainRd : Op → Option Operand
  | .load _ x => some x
  | .slice _ x _ _ _ => some x
  | .indexAddr _ x _ => some x
  | .lookup _ x _ _ => some x
  | .call ⟨.builtin .len, args, _⟩ => args[0]?
  | _ => none
def mainWr : Op → Option Operand
  | .store _ x _ => some x
  | .mapUpdate _ x _ _ => some x
  | .call ⟨.builtin .append, args, _⟩ => args[0]?
  | _ => none

def apart (ops : Array Oper) (o1 o2 : Oper) : Bool :=
  (match o1.dst with | some t => !(readsOf ops o2).contains t && !(o2.dst == some t) | none => true) && (match o2.dst with | some t => !(readsOf ops o1).contains t | none => true)
def comm (ops : Array Oper) (o1 o2 : Oper) : Bool :=
  apart ops o1 o2 && (cls o1.op == 0 || cls o2.op == 0 || (cls o1.op == 1 && cls o2.op == 1) || (cls o1.op == 1 && o1.guard.isNone && cls o2.op == 2) || (cls o1.op == 1 && o1.guard.isNone && (mainRd o1.op).isSome && o2.guard.isNone && (mainWr o2.op).isSome))

/-- Is one ahead of the other by the edges? -/
def ordB (ops : Array Oper) : Nat → Nat → Nat → Bool
  | 0, _, _ => false
  | f + 1, i, j => match ops[j]? with
    | none => false
    | some o => o.after.toList.any fun e => Region.binds .any e && (e.on == i || ordB ops f i e.on)
/-- May the region be walked in the text's order alone? -/
def drawPairs (ops : Array Oper) : Nat → List Oper → Bool
  | _, [] => true
  | j, o :: l => (ops.toList.take j).zipIdx.all (fun p => comm ops p.1 o || ordB ops ops.size p.2 j) && o.after.toList.all (fun e => !Region.binds .any e || e.on < j) && drawPairs ops (j + 1) l
def drawOK (ops : Array Oper) : Bool := drawPairs ops 0 ops.toList

def dstOK (N : Nat) : List Oper → Bool
  | [] => true
  | o :: r => (match o.dst with | some t => decide (t < N) | none => true) && dstOK N r
theorem dstOK_mem {N : Nat} {l : List Oper} (h : dstOK N l = true) (o : Oper) (ho : o ∈ l) (t : Nat) (ht : o.dst = some t) : t < N := by
  induction l with
  | nil => cases ho
  | cons x r ih =>
    simp only [dstOK, Bool.and_eq_true] at h
    rcases List.mem_cons.1 ho with h' | h'
    · rw [← h', ht] at h; exact of_decide_eq_true h.1
    · exact ih h.2 h'

def okCode (N : Nat) : Code → Bool
  | .region _ ops draw => dstOK N ops.toList && (!draw || drawOK ops)
  | .seq a b => okCode N a && okCode N b
  | .cond _ a b => okCode N a && okCode N b
  | .block _ c => okCode N c
  | .loop c => okCode N c
  | .scope c => okCode N c
  | .rangeFunc _ _ a b => okCode N a && okCode N b
  | _ => true
def okItem (N : Nat) : Item → Bool
  | .code c => okCode N c
  | .inLoop c => okCode N c
  | .inScope c => okCode N c
  | .inRegion ops _ => dstOK N ops.toList
  | _ => true
def todoOK (N : Nat) : List Item → Bool
  | [] => true
  | x :: k => okItem N x && todoOK N k
theorem okFind {N : Nat} : ∀ (c : Code) (l : Nat) (r : Code), okCode N c = true → findLabel c l = some r → okCode N r = true
  | .seq a b, l, r, h, hf => by
    simp only [okCode, Bool.and_eq_true] at h
    simp only [findLabel] at hf
    split at hf
    · rename_i rest hr
      cases hf
      simp only [okCode, Bool.and_eq_true]
      exact ⟨okFind a l _ h.1 hr, h.2⟩
    · exact okFind b l r h.2 hf
  | .label l', l, r, _, hf => by
    simp only [findLabel] at hf
    split at hf
    · cases hf; rfl
    · cases hf
  | .skip, _, _, _, hf => by cases hf
  | .region _ _ _, _, _, _, hf => by cases hf
  | .cond _ _ _, _, _, _, hf => by cases hf
  | .block _ _, _, _, _, hf => by cases hf
  | .loop _, _, _, _, hf => by cases hf
  | .rangeFunc _ _ _ _, _, _, _, hf => by cases hf
  | .exit _, _, _, _, hf => by cases hf
  | .scope _, _, _, _, hf => by cases hf
  | .goto _, _, _, _, hf => by cases hf
  | .ret, _, _, _, hf => by cases hf
  | .refuse _, _, _, _, hf => by cases hf
theorem okExit {N id : Nat} : ∀ (k k' : List Item), todoOK N k = true → exitTo id k = some k' → todoOK N k' = true
  | [], _, _, h => by cases h
  | x :: k, k', hk, h => by
    simp only [todoOK, Bool.and_eq_true] at hk
    cases x <;> simp only [exitTo] at h <;> first
      | exact okExit k k' hk.2 h
      | (split at h
         · cases h; exact hk.2
         · exact okExit k k' hk.2 h)
theorem okGoto {N l : Nat} : ∀ (k k' : List Item), todoOK N k = true → gotoIn l k = some k' → todoOK N k' = true
  | [], _, _, h => by cases h
  | x :: k, k', hk, h => by
    have hk0 := hk
    simp only [todoOK, Bool.and_eq_true] at hk
    cases x <;> simp only [gotoIn] at h <;> first
      | exact okGoto k k' hk.2 h
      | (split at h
         · rename_i rest hr
           cases h
           simp only [todoOK, okItem, Bool.and_eq_true]
           exact ⟨okFind _ _ _ hk.1 hr, hk.1, hk.2⟩
         · exact okGoto k k' hk.2 h)
end Go.AM
