/- An abstract machine over the model: states, what is to be shown of the rest of a call, and how a call is entered, left, weakened. -/
import Derived.Test.YtdocdnmbmikefaaAmB
import Derived.RangeFuncRecord
import Derived.AtR
set_option linter.unusedVariables false
set_option linter.unusedSimpArgs false
namespace Go.AM

structure St where
  ρ : List (Nat × AV)
  h : AHeap
  n : Nat

def St.put (s : St) (d : Option Nat) (v : AV) (h : AHeap) (n : Nat) : St :=
  match d with
  | some t => ⟨(t, v) :: s.ρ, h, n⟩
  | none => ⟨s.ρ, h, n⟩

structure Rel (L : Link) (N : Nat) (s : St) (a : Act) (w : World) : Prop where
  size : a.tmps.size = N
  slots : ∀ t, V L (look s.ρ t) (a.tmps.getD t undef)
  good : Good L s.h s.n w

def coll (r : Nat) : Deferred := { target := .collected r, args := #[] }
/-- What was known at a call's start still holds; and its loops' blocks for deferred calls are empty. -/
structure XD (L0 L : Link) (a : Act) : Prop where
  ext : Ext L0 L
  ds : ∃ rs : List Nat, a.defers = rs.map coll ∧ rs.Nodup ∧ ∀ r, r ∈ rs → L.R r = some (.deferred (some [])) ∧ L0.R r = none
theorem XD.trans {L0 L L' : Link} {a a' : Act} (h : XD L0 L a) (hx : Ext L L') (ha : a'.defers = a.defers) : XD L0 L' a' := by
  obtain ⟨rs, h1, h2, h3⟩ := h.ds
  exact ⟨h.ext.trans hx, rs, by rw [ha, h1], h2, fun r hr => ⟨hx.R _ _ (h3 r hr).1, (h3 r hr).2⟩⟩
theorem Act.put_defers (a : Act) (d : Option Tmp) (v : Value) : (a.put d v).defers = a.defers := by cases d <;> rfl

/-- What a call is to come to. -/
def Post (L : Link) (n : Nat) (K : AV → AHeap → Nat → Prop) (e : Ending) (w : World) : Prop :=
  ∃ x v h n' L', e = .returned x ∧ Ext L L' ∧ n ≤ n' ∧ V L' v x ∧ Good L' h n' w ∧ K v h n'

def Args (L : Link) (args : List AV) (xs : Array Value) : Prop := xs.size = args.length ∧ ∀ j c, args[j]? = some c → V L c (xs.getD j undef)

def FnOK (P : Program) (f : FuncId) : Prop := ∃ fn, P.funcs[f]? = some fn ∧ (fn.name == "runtime.NumGoroutine") = false ∧ fn.body.isNone = false
def ACall (P : Program) (f : FuncId) (args : List AV) (h : AHeap) (n : Nat) (K : AV → AHeap → Nat → Prop) : Prop :=
  FnOK P f ∧ ∀ L w xs, Args L args xs → Good L h n w → Calls P f xs w (Post L n K)

structure Cx where
  P : Program
  f : FuncId
  fn : Func
  N : Nat
  rs : List ResultVar
  keep : List Nat
  E : FuncId → List AV → Option (Prop × AV)
  L0 : Link
  n0 : Nat
  ro : Option (Nat × Nat)
  K : AV → AHeap → Nat → Prop
  hf : P.funcs[f]? = some fn
  hN : fn.ntmps = N
  hrs : fn.results.toList = rs
  hE : ∀ f as p v, E f as = some (p, v) → p → ∀ h n K, K v h n → ACall P f as h n K
  hm : P.follows .mixedOrders = true
  hL : Fresh L0 n0
  hro : ∀ r l, ro = some (r, l) → L0.mp l = some r

def Cx.base (C : Cx) : Frame := { (default : Frame) with fn := C.f, kind := .normal, roundOf := C.ro.map (·.1) }

/-- What a frame is to come to: of a call, it returns; of a loop's round, its caller goes on. -/
def End (C : Cx) (m : Machine) (cs : List Frame) : Prop :=
  match C.ro with
  | none => ∃ e w' fr, Post C.L0 C.n0 C.K e w' ∧ Comes C.P m (lone fr cs w') e ∧ fr.fn = C.f ∧ fr.leaving C.P w' e
  | some _ => ∀ c cs', cs = c :: cs' → ∃ x w', Post C.L0 C.n0 C.K (.returned x) w' ∧ Steps C.P m (lone (c.finish x) cs' w')
theorem End.of_steps {C : Cx} {m m' : Machine} {cs : List Frame} (hs : Steps C.P m m') (h : End C m' cs) : End C m cs := by
  unfold End at h ⊢
  split at h
  · rename_i hro
    obtain ⟨e, w', fr, h1, h2, h3⟩ := h
    exact ⟨e, w', fr, h1, Comes.of_steps hs h2, h3⟩
  · rename_i hro
    intro c cs' hc
    obtain ⟨x, w', h1, h2⟩ := h c cs' hc
    exact ⟨x, w', h1, Steps.trans hs h2⟩

/-- The rest of a call, from a state on, comes to what is asked. -/
def Sem (C : Cx) (todo : List Item) (s : St) : Prop :=
  ∀ L a w, XD C.L0 L a → Rel L C.N s a w → ∀ cs, End C (lone (C.base.atR a todo) cs w) cs

theorem Sem.step {C : Cx} {todo todo' : List Item} {s : St} (h : Sem C todo' s)
    (hs : ∀ (a : Act) (w : World) cs L, Rel L C.N s a w → Steps C.P (lone (C.base.atR a todo) cs w) (lone (C.base.atR a todo') cs w)) : Sem C todo s :=
  fun L a w hx hr cs => (h L a w hx hr cs).of_steps (hs a w cs L hr)

theorem Sem.seq {C : Cx} {x y : Code} {k : List Item} {s : St} (h : Sem C (.code x :: .code y :: k) s) : Sem C (.code (.seq x y) :: k) s := h.step fun a w cs L _ => .one stepR_seq
theorem Sem.skip {C : Cx} {k : List Item} {s : St} (h : Sem C k s) : Sem C (.code .skip :: k) s := h.step fun a w cs L _ => .one stepR_skip
theorem Sem.label {C : Cx} {k : List Item} {s : St} {l : Nat} (h : Sem C k s) : Sem C (.code (.label l) :: k) s := h.step fun a w cs L _ => .one stepR_label
theorem Sem.block {C : Cx} {id : Nat} {c : Code} {k : List Item} {s : St} (h : Sem C (.code c :: .inBlock id :: k) s) : Sem C (.code (.block id c) :: k) s := h.step fun a w cs L _ => .one stepR_block
theorem Sem.inBlock {C : Cx} {id : Nat} {k : List Item} {s : St} (h : Sem C k s) : Sem C (.inBlock id :: k) s := h.step fun a w cs L _ => .one stepR_inBlock
theorem Sem.loop {C : Cx} {c : Code} {k : List Item} {s : St} (h : Sem C (.code c :: .inLoop c :: k) s) : Sem C (.code (.loop c) :: k) s := h.step fun a w cs L _ => .one stepR_loop
theorem Sem.inLoop {C : Cx} {c : Code} {k : List Item} {s : St} (h : Sem C (.code c :: .inLoop c :: k) s) : Sem C (.inLoop c :: k) s := h.step fun a w cs L _ => .one stepR_inLoop
theorem End.of_same {C : Cx} {m m' m'' : Machine} {cs : List Frame} (h1 : step C.P m = .next m'') (h2 : step C.P m' = .next m'') (h : End C m' cs) (hne : ∀ fr w v, m' = lone fr cs w → ¬ fr.leaving C.P w (.returned v)) (hne' : ∀ c cs' x w, cs = c :: cs' → m' ≠ lone (c.finish x) cs' w) : End C m cs := by
  have key : ∀ mz, Steps C.P m' mz → mz ≠ m' → Steps C.P m mz := fun mz hs hn => by
    obtain ⟨n, hn'⟩ := hs
    cases n with
    | zero => simp only [runN] at hn'; injection hn' with hn'; exact absurd hn'.symm hn
    | succ n => simp only [runN] at hn'; rw [h2] at hn'; exact ⟨n + 1, by simp only [runN]; rw [h1]; exact hn'⟩
  unfold End at h ⊢
  split at h
  · rename_i hro
    obtain ⟨e, w', fr, q1, q2, q3, q4⟩ := h
    obtain ⟨x, v, hh, n', L', rfl, q5⟩ := q1
    exact ⟨.returned x, w', fr, ⟨x, v, hh, n', L', rfl, q5⟩, key _ q2 (fun e => hne fr w' x e.symm q4), q3, q4⟩
  · rename_i hro
    intro c cs' hc
    obtain ⟨x, w', q1, q2⟩ := h c cs' hc
    exact ⟨x, w', q1, key _ q2 (fun e => hne' c cs' x w' hc e.symm)⟩
theorem lone_inj {fr fr' : Frame} {cs cs' : List Frame} {w w' : World} (h : lone fr cs w = lone fr' cs' w') : fr = fr' ∧ cs = cs' := by
  have := congrArg (fun m => m.gs) h
  simp only [lone] at this
  have := congrArg (fun z => z[0]?) this
  simp at this
  exact this
theorem cons_ne {α : Type} (c : α) : ∀ cs : List α, cs ≠ c :: cs
  | [], h => by cases h
  | x :: cs, h => by injection h with _ h2; exact cons_ne x cs (by rw [← h2])
theorem Sem.loop' {C : Cx} {c : Code} {k : List Item} {s : St} (h : Sem C (.inLoop c :: k) s) : Sem C (.code (.loop c) :: k) s := by
  intro L a w hx hr cs
  refine End.of_same stepR_loop stepR_inLoop (h L a w hx hr cs) (fun fr w' v e hl => ?_) (fun c' cs' x w' hc e => ?_)
  · obtain ⟨h1, _⟩ := lone_inj e
    have := hl.1
    rw [← h1] at this
    simp [Frame.atR] at this
  · obtain ⟨_, h2⟩ := lone_inj e
    rw [hc] at h2
    exact cons_ne c' cs' h2.symm
theorem Sem.exit {C : Cx} {id : Nat} {k k' : List Item} {s : St} (hk : exitTo id k = some k') (h : Sem C k' s) : Sem C (.code (.exit id) :: k) s := h.step fun a w cs L _ => .one (stepR_exit hk)
theorem Sem.goto {C : Cx} {l : Nat} {k k' : List Item} {s : St} (hk : gotoIn l k = some k') (h : Sem C k' s) : Sem C (.code (.goto l) :: k) s := h.step fun a w cs L _ => .one (stepR_goto hk)
theorem Sem.scope {C : Cx} {c : Code} {k : List Item} {s : St} (h : Sem C (.code c :: .inScope c :: k) s) : Sem C (.code (.scope c) :: k) s :=
  h.step fun a w cs L _ => .one (step_lone_go (by simp [stepG, stepG.exec, Frame.atR]))
theorem Sem.inScope {C : Cx} {c : Code} {k : List Item} {s : St} (h : Sem C k s) : Sem C (.inScope c :: k) s :=
  h.step fun a w cs L _ => .one (step_lone_go (by simp [stepG, stepG.exec, Frame.atR]))
theorem Sem.region {C : Cx} {id : Nat} {ops : Array Oper} {k : List Item} {s : St} (h : Sem C (.inRegion ops (List.range ops.size) :: k) s) : Sem C (.code (.region id ops false) :: k) s :=
  h.step fun a w cs L _ => .one stepR_region
theorem Sem.regionEnd {C : Cx} {ops : Array Oper} {k : List Item} {s : St} (h : Sem C k s) : Sem C (.inRegion ops [] :: k) s :=
  h.step fun a w cs L _ => .one stepR_region_end

/-! ### Operands -/
def constAV : Value → AV
  | .int k n => .d (.int k n)
  | .bool b => .d (.bool b)
  | .string s => .d (.str s)
  | .slice none 0 0 => .d .nilS
  | .pointer none => .d .nilP
  | .map none => .d .nilM
  | .nilFunc => .d .nilF
  | .nilIface => .d .nilI
  | _ => .any
theorem V_const (L : Link) (v : Value) : V L (constAV v) v := by
  unfold constAV
  split <;> first | exact .any _ | (refine .d ?_; constructor)

def ev (ρ : List (Nat × AV)) : Operand → AV
  | .tmp t => look ρ t
  | .const v => constAV v
  | .func f => .fn (.func f) [] []
  | .global _ => .any

theorem Rel.ev {L : Link} {N : Nat} {s : St} {a : Act} {w : World} (h : Rel L N s a w) (x : Operand) : V L (ev s.ρ x) (a.eval x) := by
  cases x with
  | tmp t => exact h.slots t
  | const v => exact V_const L v
  | global g => exact .any _
  | func f => exact .fn _ _ _ _ _ rfl rfl (fun j c hj => by simp at hj) (fun j c hj => by simp at hj)

theorem Sem.cond {C : Cx} {c : Operand} {x y : Code} {k : List Item} {s : St} {t : Bool} (hc : AM.ev s.ρ c = .d (.bool t)) (h : Sem C (.code (if t then x else y) :: k) s) : Sem C (.code (.cond c x y) :: k) s :=
  h.step fun a w cs L hr => .one (stepR_cond (by have := hr.ev c; rw [hc] at this; generalize a.eval c = z at this ⊢; cases this with | d hd => cases hd; rfl))

/-! ### The end of a call -/
def resAV (s : St) : ResultVar → Option AV
  | .tmp t => some (look s.ρ t)
  | .cell _ _ => none

/-- A heap's part below a name, with what is no longer wanted left out. -/
def Cut (h h' : AHeap) (n' : Nat) : Prop := ∀ l ob, h' l = some ob → h l = some ob ∧ l < n'
def ScOb (n : Nat) : AOb → Prop
  | .cells _ _ rows => ∀ row, row ∈ rows → ∀ x, x ∈ row → Sc n x
  | .map _ _ _ es => ∀ p, p ∈ es → Sc n p.2
  | .itr _ cur left => (∀ p, cur = some p → Sc n p.2) ∧ ∀ p, p ∈ left → Sc n p.2
  | .loop _ _ ρ _ _ _ _ _ => ∀ t, Sc n (look ρ t)
def WFh (h : AHeap) (n : Nat) : Prop := ∀ l ob, h l = some ob → l < n ∧ ScOb n ob

theorem Good.wf {L : Link} {h : AHeap} {n : Nat} {w : World} (hg : Good L h n w) : WFh h n := by
  intro l ob hl
  refine ⟨hg.lt hl, ?_⟩
  obtain ⟨own, gh, ho⟩ := hg.obs
  have := ho l ob hl
  cases ob with
  | cells v sz rows =>
    obtain ⟨_, h2⟩ := this
    rcases h2 with ⟨_, h3⟩ | ⟨b, o, cap, c, e, _, _, _, _, _, _, h8⟩
    · subst h3; intro row hr; cases hr
    · intro row hr x hx
      obtain ⟨i, hi⟩ := List.getElem?_of_mem hr
      obtain ⟨j, hj⟩ := List.getElem?_of_mem hx
      exact (h8.2 i j row x hi hj).1.sc hg.fresh
  | map pin agg kn es =>
    obtain ⟨r, ents, clock, h1, h2, h3, h4, h5, h6⟩ := this
    intro p hp
    obtain ⟨i, hi⟩ := List.getElem?_of_mem hp
    have hlt : i < ents.size := by rw [h5.size]; exact (List.getElem?_eq_some_iff.1 hi).1
    exact (h5.ent i p _ hi (Array.getElem?_eq_getElem hlt)).2.sc hg.fresh
  | itr g cur left =>
    obtain ⟨r, rm, ents, clock, seen, _, _, _, _, _, _, _, h8⟩ := this
    refine ⟨fun p hp => ?_, fun p hp => ?_⟩
    · obtain ⟨e, s', _, _, _, q⟩ := h8.cur p hp; exact q.sc hg.fresh
    · obtain ⟨i, hi⟩ := List.getElem?_of_mem hp
      have hlt : i < (leftL ents seen).length := by rw [← h8.left.1]; exact (List.getElem?_eq_some_iff.1 hi).1
      exact (h8.left.2 i p _ hi (List.getElem?_eq_getElem hlt)).2.sc hg.fresh
  | loop st pend ρ f N ps asg body =>
    obtain ⟨r, tmps, df, h1, h2, h3, h4, h5, h6⟩ := this
    exact fun t => (h6 t).sc hg.fresh

theorem Fresh.cut (L : Link) (n : Nat) : Fresh (L.cut n) n := fun l hl => ⟨fun v => by simp only [Link.cut]; rw [if_neg (by omega)], by simp only [Link.cut]; rw [if_neg (by omega)]⟩

theorem Good.cut {L : Link} {h h' : AHeap} {n n' : Nat} {w : World} (hg : Good L h n w) (hc : Cut h h' n') (hw : WFh h' n') : Good (L.cut n') h' n' w := by
  obtain ⟨own, gh, ho⟩ := hg.obs
  refine ⟨⟨own, gh, fun l ob hl => ?_⟩, hg.ro, Fresh.cut L n', hg.env⟩
  obtain ⟨h1, h2⟩ := hc l ob hl
  have h3 := ho l ob h1
  have h4 := (hw l ob hl).2
  cases ob with
  | cells v sz rows =>
    obtain ⟨h5, h6⟩ := h3
    refine ⟨fun v' hv' => by simp only [Link.cut]; rw [if_pos h2]; exact h5 v' hv', ?_⟩
    rcases h6 with ⟨h6, h7⟩ | ⟨b, o, cap, c, e, h6, h7, h8, h9, h10, h11, h12⟩
    · exact .inl ⟨by simp only [Link.cut]; rw [if_pos h2, h6], h7⟩
    · exact .inr ⟨b, o, cap, c, e, by simp only [Link.cut]; rw [if_pos h2, h6], h7, h8, h9, h10, h11, h12.1, fun i j row x hi hj => ⟨(h12.2 i j row x hi hj).1.cut (h4 row (List.mem_of_getElem? hi) x (List.mem_of_getElem? hj)), (h12.2 i j row x hi hj).2⟩⟩
  | map pin agg kn es =>
    obtain ⟨r, ents, clock, h5, h6, h7, h8, h9, h10⟩ := h3
    refine ⟨r, ents, clock, by simp only [Link.cut]; rw [if_pos h2, h5], h6, h7, h8, ⟨h9.size, fun i p e hi he => ⟨(h9.ent i p e hi he).1, (h9.ent i p e hi he).2.cut (h4 p (List.mem_of_getElem? hi))⟩, h9.wid, h9.one, h9.born, h9.last⟩, h10⟩
  | itr g cur left =>
    obtain ⟨r, rm, ents, clock, seen, h5, h6, h7, h8, h9, h10, h11, h12⟩ := h3
    exact ⟨r, rm, ents, clock, seen, by simp only [Link.cut]; rw [if_pos h2, h5], h6, h7, h8, h9, h10, h11, h12.map fun p v hp hv => hv.cut (hp.elim (h4.2 p) (h4.1 p))⟩
  | loop st pend ρ f N ps asg body =>
    obtain ⟨r, tmps, df, h5, h6, h7, h8, h9, h10⟩ := h3
    exact ⟨r, tmps, df, by simp only [Link.cut]; rw [if_pos h2, h5], h6, h7, h8, h9, fun t => (h10 t).cut (h4 t)⟩

theorem Ext.cut {L0 L : Link} {n0 n' : Nat} (hf : Fresh L0 n0) (hx : Ext L0 L) (hn : n0 ≤ n') : Ext L0 (L.cut n') := by
  refine ⟨hx.env, hx.R, hx.fo, fun l v p h => ?_, fun l r h => ?_⟩
  · have : l < n' := by
      rcases Nat.lt_or_ge l n' with h' | h'
      · exact h'
      · rw [(hf l (by omega)).1 v] at h; cases h
    simp only [Link.cut]; rw [if_pos this]; exact hx.pl l v p h
  · have : l < n' := by
      rcases Nat.lt_or_ge l n' with h' | h'
      · exact h'
      · rw [(hf l (by omega)).2] at h; cases h
    simp only [Link.cut]; rw [if_pos this]; exact hx.mp l r h

/-- What a call hands back, out of a state. -/
def resCell (s : St) (t : Nat) (size : Nat) (agg : Bool) : Prop × AV :=
  match look s.ρ t with
  | .ptr l v i off => match s.h l with
    | some (.cells v' sz rows) => (v' = v ∧ i < rows.length ∧ off + size ≤ sz ∧ (agg = false → size = 1),
        if agg then .agg (((rows.getD i []).drop off).take size) else (rows.getD i []).getD off .any)
    | _ => (False, .any)
  | _ => (False, .any)

end Go.AM
