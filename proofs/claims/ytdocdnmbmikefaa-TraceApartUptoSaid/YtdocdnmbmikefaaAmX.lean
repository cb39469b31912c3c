/- An abstract machine over the model: the walk of a function, reckoned out. -/
import Derived.Test.YtdocdnmbmikefaaAmK
set_option linter.unusedVariables false
set_option linter.unusedSimpArgs false
namespace Go.AM

def strip : AV → AV
  | .opt _ v => v
  | x => x
def optOK : AV → Prop
  | .opt b _ => b = true
  | _ => True
theorem V.strip {L : Link} {x : AV} {u : Value} (h : V L x u) (ho : optOK x) : V L (AM.strip x) u := by
  cases h with
  | optT h => exact h
  | optF v => simp only [optOK] at ho; cases ho
  | d h => exact .d h
  | rp _ _ _ _ h => exact .rp _ _ _ _ h
  | ptr _ _ h => exact .ptr _ _ h
  | arr _ _ _ h h1 h2 => exact .arr _ _ _ h h1 h2
  | arrN h => exact .arrN h
  | arrE _ _ h => exact .arrE _ _ h
  | map h => exact .map h
  | itr h => exact .itr h
  | yld h => exact .yld h
  | fn _ _ _ _ _ h1 h2 h3 h4 => exact .fn _ _ _ _ _ h1 h2 h3 h4
  | agg _ _ h1 h2 => exact .agg _ _ h1 h2
  | tup _ _ h1 h2 => exact .tup _ _ h1 h2
  | any => exact .any _

def optAll (ρ : List (Nat × AV)) : List Operand → Prop
  | [] => True
  | x :: r => optOK (ev ρ x) ∧ optAll ρ r
theorem optAll_mem {ρ : List (Nat × AV)} : ∀ {l : List Operand}, optAll ρ l → ∀ x, x ∈ l → optOK (ev ρ x)
  | _ :: _, h, x, hx => by
    rcases List.mem_cons.1 hx with rfl | hx
    · exact h.1
    · exact optAll_mem h.2 x hx

/-- An operation behind a guard: what it reads may lie behind the same guard. -/
def stepO (P : Program) (ρ : List (Nat × AV)) (h : AHeap) (n : Nat) (op : Op) : R1 :=
  match op with
  | .pick c x y => step P (ev ρ) h n (.pick c x y)
  | op => withPre (optAll ρ op.operands.toList) (step P (fun x => strip (ev ρ x)) h n op)

theorem stepO_sound {P : Program} {L : Link} {N : Nat} {s : St} {a : Act} {w : World} {o : Oper} (hr : Rel L N s a w) : Snd P L a w o (stepO P s.ρ s.h s.n o.op) := by
  have key : Snd P L a w o (withPre (optAll s.ρ o.op.operands.toList) (step P (fun x => strip (ev s.ρ x)) s.h s.n o.op)) := by
    intro hp
    obtain ⟨h1, h2⟩ := hp
    classical
    let e' : Operand → AV := fun x => if x ∈ o.op.operands.toList then strip (ev s.ρ x) else .any
    have hc : step P (fun x => strip (ev s.ρ x)) s.h s.n o.op = step P e' s.h s.n o.op := step_congr fun x hx => by simp only [e']; rw [if_pos hx]
    have he : ∀ x, V L (e' x) (a.eval x) := fun x => by
      simp only [e']
      split
      · rename_i hx; exact (hr.ev x).strip (optAll_mem h1 x hx)
      · exact .any _
    have := step_sound (P := P) (o := o) he hr.good
    rw [← hc] at this
    exact this h2
  unfold stepO
  split
  · rename_i c x y ho
    have := step_sound (P := P) (o := o) hr.ev hr.good
    rw [ho] at this
    exact this
  · exact key

theorem quiet_stepO {P : Program} {ρ : List (Nat × AV)} {h : AHeap} {n : Nat} {op : Op} (hq : isQuiet op = true) : (stepO P ρ h n op).h = h ∧ (stepO P ρ h n op).n = n := by
  unfold stepO
  split
  · exact quiet_step hq
  · exact quiet_step hq

def gv (ρ : List (Nat × AV)) (t : Option Nat) (want : Bool) : Option Bool :=
  match t with
  | none => none
  | some t => match look ρ t with
    | .d (.bool b) => some (b == want)
    | .opt b0 (.d (.bool b)) => some (b0 && (b == want))
    | .tup [] => some false
    | _ => none

theorem gv_spec {L : Link} {N : Nat} {s : St} {a : Act} {w : World} {ops : Array Oper} {j : Nat} {want g : Bool} {o : Oper} (hr : Rel L N s a w) (ho : o.guard = some (j, want)) (hg : gv s.ρ ((ops[j]?).bind (·.dst)) want = some g) :
    Region.wanted o (yielded ops a.tmps) = g := by
  unfold gv at hg
  cases hd : (ops[j]?).bind (·.dst) with
  | none => rw [hd] at hg; cases hg
  | some t =>
    rw [hd] at hg
    have hv := hr.slots t
    simp only [Region.wanted, ho, yielded, hd, Option.bind_some]
    have hb : ∀ b : Bool, a.tmps.getD t undef = .bool b → a.tmps[t]? = some (.bool b) := fun b hb => by
      simp only [Array.getD_eq_getD_getElem?] at hb
      cases hq : a.tmps[t]? with
      | none => rw [hq] at hb; simp [undef] at hb
      | some u => rw [hq] at hb; simpa using hb
    have hu : ∀ us : Array Value, a.tmps.getD t undef = .tuple us → ∀ b, a.tmps[t]? ≠ some (.bool b) := fun us hb b hq => by
      simp [Array.getD_eq_getD_getElem?, hq] at hb
    simp only at hg
    generalize look s.ρ t = z at hv hg
    generalize hx : a.tmps.getD t undef = u at hv
    split at hg
    · rename_i b
      cases hg
      cases hv with | d hd => cases hd with | bool =>
      rw [hb _ hx]
      cases b <;> cases want <;> rfl
    · rename_i b0 b
      cases hg
      cases hv with
      | optT hv =>
        cases hv with | d hd => cases hd with | bool =>
        rw [hb _ hx]
        cases b <;> cases want <;> rfl
      | optF =>
        have := hu #[] hx
        cases hq : a.tmps[t]? with
        | none => cases want <;> rfl
        | some u => cases u <;> first | (cases want <;> rfl) | exact absurd hq (this _)
    · cases hg
      cases hv with
      | tup _ us hs _ =>
        have := hu us hx
        cases hq : a.tmps[t]? with
        | none => cases want <;> rfl
        | some u => cases u <;> first | (cases want <;> rfl) | exact absurd hq (this _)
    · cases hg

/-- Whom a call calls. -/
def callT (f : AV) (args : List AV) : Option (FuncId × List AV) :=
  match f with
  | .fn (.func g) first cap => some (g, first ++ args ++ cap)
  | _ => none

/-- A round's call: what is to be shown of it. -/
def AYield (P : Program) (l : Nat) (args : List AV) (h : AHeap) (n : Nat) (K : AV → AHeap → Nat → Prop) : Prop :=
  ∀ L w xs r, Args L args xs → Good L h n w → L.mp l = some r → ∃ f tmps asg body, (Instr.yield r xs).run P w = .ok (.round r f tmps asg body) w ∧
    ∀ c cs, ∃ x w', Post L n K (.returned x) w' ∧ Steps P (lone (Frame.round r f tmps asg body .normal) (c :: cs) w) (lone (c.finish x) cs w')


theorem AYield.mono {P : Program} {l : Nat} {args : List AV} {h : AHeap} {n : Nat} {K K' : AV → AHeap → Nat → Prop} (hy : AYield P l args h n K) (hk : ∀ v h n, K v h n → K' v h n) : AYield P l args h n K' := fun L w xs r h1 h2 h3 => by
  obtain ⟨f, tmps, asg, body, q1, q2⟩ := hy L w xs r h1 h2 h3
  refine ⟨f, tmps, asg, body, q1, fun c cs => ?_⟩
  obtain ⟨x, w', ⟨x', v, h', n', L', z1, z2, z3, z4, z5, z6⟩, q4⟩ := q2 c cs
  exact ⟨x, w', ⟨x', v, h', n', L', z1, z2, z3, z4, z5, hk _ _ _ z6⟩, q4⟩
def validL (ops : Array Oper) (l : List (Nat × Oper)) : Prop := ∀ i o, (i, o) ∈ l → ops[i]? = some o
/-- The rest of a region. -/
def SemR (C : Cx) (ops : Array Oper) (k : List Item) (l : List (Nat × Oper)) (s : St) : Prop := validL ops l → dstOK C.N ops.toList = true → todoOK C.N k = true → Sem C (.inRegion ops (l.map (·.1)) :: k) s

/-- What is known of the slots that are read later. -/
def prune (keep : List Nat) (ρ : List (Nat × AV)) : List (Nat × AV) :=
  match keep with
  | [] => []
  | k :: r => match look ρ k with
    | .any => prune r ρ
    | v => (k, v) :: prune r ρ
theorem look_prune (keep : List Nat) (ρ : List (Nat × AV)) (t : Nat) : look (prune keep ρ) t = look ρ t ∨ look (prune keep ρ) t = .any := by
  induction keep with
  | nil => exact .inr rfl
  | cons k r ih =>
    simp only [prune]
    split
    · exact ih
    · simp only [look]
      split
      · rename_i e; subst e; exact .inl rfl
      · exact ih
def St.prune (keep : List Nat) (s : St) : St := ⟨AM.prune keep s.ρ, s.h, s.n⟩
theorem Rel.prune {L : Link} {N : Nat} {s : St} {a : Act} {w : World} (keep : List Nat) (h : Rel L N s a w) : Rel L N (s.prune keep) a w :=
  ⟨h.size, fun t => by
    rcases look_prune keep s.ρ t with e | e
    · show V L (look (AM.prune keep s.ρ) t) _; rw [e]; exact h.slots t
    · show V L (look (AM.prune keep s.ρ) t) _; rw [e]; exact .any _, h.good⟩
theorem Sem.prune {C : Cx} {k : List Item} {s : St} (keep : List Nat) (h : Sem C k (s.prune keep)) : Sem C k s := fun L a w hx hr => h L a w hx (hr.prune keep)
/-! ### A state behind an operation -/
theorem look_cons (ρ : List (Nat × AV)) (t k : Nat) (v : AV) : look ((k, v) :: ρ) t = if t = k then v else look ρ t := rfl
theorem Rel.put {L L' : Link} {N : Nat} {s : St} {a : Act} {w w' : World} (hr : Rel L N s a w) (hx : Ext L L') (d : Option Nat) {v : AV} {x : Value} (hv : V L' v x) {h : AHeap} {n : Nat} (hg : Good L' h n w') (hN : ∀ t, d = some t → t < N) :
    Rel L' N (s.put d v h n) (a.put d x) w' := by
  cases d with
  | none => exact ⟨hr.size, fun t => (hr.slots t).mono hx, hg⟩
  | some t =>
    refine ⟨by simp [Act.put, hr.size], fun t' => ?_, hg⟩
    simp only [St.put, look_cons, Act.put]
    by_cases ht : t' = t
    · rw [if_pos ht, ht]
      have : t < a.tmps.size := by rw [hr.size]; exact hN t rfl
      simp only [Array.getD_eq_getD_getElem?]
      rw [Array.getElem?_setIfInBounds]
      simp [this]
      exact hv
    · rw [if_neg ht]
      have := (hr.slots t').mono hx
      simp only [Array.getD_eq_getD_getElem?] at this ⊢
      rw [Array.getElem?_setIfInBounds]
      rw [if_neg (fun e => ht e.symm)]
      exact this

theorem run_callFunc {P : Program} {f : FuncId} (h : FnOK P f) (args : Array Value) (w : World) : (callFunc f args).run P w = .ok (.enter f args) w := by
  obtain ⟨fn, h1, h2, h3⟩ := h
  unfold callFunc
  rw [Sem.run_bind, run_program, Result.andThen_ok, h1]
  simp only [h2, h3, Bool.false_eq_true, if_false, Sem.run_pure]

/-- One operation that is carried out. -/
theorem noDefer {P : Program} {e : Operand → AV} {h : AHeap} {n : Nat} {op : Op} (hp : (step P e h n op).pre) : ∀ c, op ≠ .defer c := fun c e => by subst e; exact hp
theorem noDeferO {P : Program} {ρ : List (Nat × AV)} {h : AHeap} {n : Nat} {op : Op} (hp : (stepO P ρ h n op).pre) : ∀ c, op ≠ .defer c := fun c e => by subst e; exact hp.2
theorem stepGR {C : Cx} {a : Act} {ops : Array Oper} {i : Nat} {rest : List Nat} {k : List Item} {cs : List Frame} {w : World} {o : Oper} (ho : ops[i]? = some o) (hw : Region.wanted o (yielded ops a.tmps) = true) (hnd : ∀ c, o.op ≠ .defer c) :
    stepG C.P true { frame := C.base.atR a (.inRegion ops (i :: rest) :: k), callers := cs, status := .running, dying := none } w =
      stepG.apply C.P true (C.base.atR a (.inRegion ops (i :: rest) :: k)) cs none (execOp a.eval o) w := by
  rw [stepGR_op ho hw, Oper.semAt_eq _ _ _ hnd]
theorem Sem.op {C : Cx} {ops : Array Oper} {i : Nat} {rest : List Nat} {k : List Item} {s : St} {o : Oper} (ho : ops[i]? = some o) (hd : ∀ t, o.dst = some t → t < C.N) (r : R1) (hs : ∀ L a w, Rel L C.N s a w → Snd C.P L a w o r)
    (hw : ∀ L a w, Rel L C.N s a w → Region.wanted o (yielded ops a.tmps) = true) (hp : r.pre) (hnd : ∀ c, o.op ≠ .defer c) (h : Sem C (.inRegion ops rest :: k) (s.put o.dst r.v r.h r.n)) : Sem C (.inRegion ops (i :: rest) :: k) s := by
  intro L a w hx hr cs
  obtain ⟨nx, x, w', L', h1, h2, h3, h4, h5, h6⟩ := hs L a w hr hp
  refine (h L' (a.put o.dst x) w' (hx.trans h3 (Act.put_defers _ _ _)) (hr.put h3 o.dst h5 h6 hd) cs).of_steps (.one ?_)
  have hg := stepGR (C := C) (a := a) (k := k) (cs := cs) (w := w) (rest := rest) ho (hw L a w hr) hnd
  have hfin : ∀ v, (C.base.atR a (.inRegion ops (i :: rest) :: k)).finish v = C.base.atR (a.put o.dst v) (.inRegion ops rest :: k) := fun v => by
    rw [Frame.finish_atR, ho]; rfl
  refine step_lone_go ?_
  rw [hg, ← hfin]
  rcases h2 with rfl | ⟨rfl, rfl⟩
  · simp [stepG.apply, h1]
  · simp [stepG.apply, h1]
/-- One that is passed by. -/
theorem Sem.opSkip {C : Cx} {ops : Array Oper} {i : Nat} {rest : List Nat} {k : List Item} {s : St} {o : Oper} (ho : ops[i]? = some o) (hd : ∀ t, o.dst = some t → t < C.N) (v : AV) (hv : ∀ L, V L v undef)
    (hw : ∀ L a w, Rel L C.N s a w → Region.wanted o (yielded ops a.tmps) = false) (h : Sem C (.inRegion ops rest :: k) (s.put o.dst v s.h s.n)) : Sem C (.inRegion ops (i :: rest) :: k) s := by
  intro L a w hx hr cs
  refine (h L (a.put o.dst undef) w (hx.trans (Ext.refl L) (Act.put_defers _ _ _)) (hr.put (Ext.refl L) o.dst (hv L) hr.good hd) cs).of_steps (.one ?_)
  have := stepR_op_skip (P := C.P) (b := C.base) (a := a) (k := k) (cs := cs) (w := w) (ops := ops) (i := i) (rest := rest) (by rw [ho]; simpa using hw L a w hr)
  rw [ho] at this
  exact this

theorem args_of {L : Link} {N : Nat} {s : St} {a : Act} {w : World} (hr : Rel L N s a w) {f : FuncId} {first cap as : List AV} {xs : List AV} {args : Array Operand} {us vs : Array Value} (g : Operand → AV) (hg : ∀ x, x ∈ args.toList → V L (g x) (a.eval x))
    (h1 : us.size = first.length) (h2 : vs.size = cap.length) (h3 : ∀ j c, first[j]? = some c → V L c (us.getD j undef)) (h4 : ∀ j c, cap[j]? = some c → V L c (vs.getD j undef)) :
    Args L (first ++ args.toList.map g ++ cap) (us ++ args.map a.eval ++ vs) := by
  refine ⟨by simp [h1, h2], fun j c hj => ?_⟩
  have hmid : ∀ j c, (args.toList.map g)[j]? = some c → V L c ((args.map a.eval).getD j undef) := fun j c hj => by
    rw [List.getElem?_map] at hj
    cases hz : args.toList[j]? with
    | none => rw [hz] at hj; cases hj
    | some z =>
      rw [hz] at hj
      cases hj
      have : args[j]? = some z := by simpa using hz
      simpa [Array.getD_eq_getD_getElem?, this] using hg z (List.mem_of_getElem? hz)
  rw [List.append_assoc, List.getElem?_append] at hj
  rw [Array.append_assoc]
  by_cases ha : j < first.length
  · rw [if_pos ha] at hj
    rw [getD_app1 _ _ (by omega)]
    exact h3 j c hj
  · rw [if_neg ha, List.getElem?_append] at hj
    have e1 : ∀ (A B : Array Value) (j : Nat), A.size ≤ j → (A ++ B).getD j undef = B.getD (j - A.size) undef := fun A B j h => by
      simp only [Array.getD_eq_getD_getElem?]
      rw [Array.getElem?_append_right h]
    rw [e1 _ _ _ (by omega), h1]
    by_cases hb : j - first.length < (args.toList.map g).length
    · rw [if_pos hb] at hj
      rw [getD_app1 _ _ (by simpa using hb)]
      exact hmid _ _ hj
    · rw [if_neg hb] at hj
      rw [e1 _ _ _ (by simpa using hb)]
      simpa using h4 _ _ hj

/-- A call of a function, by what is known of it. -/
theorem Sem.call {C : Cx} {ops : Array Oper} {i : Nat} {rest : List Nat} {k : List Item} {s : St} {o : Oper} {fv : Operand} {args : Array Operand} {ts : Array TypeId} (ho : ops[i]? = some o) (hop : o.op = .call ⟨.value fv, args, ts⟩) (hd : ∀ t, o.dst = some t → t < C.N)
    (g : Operand → AV) (hgv : ∀ L a w, Rel L C.N s a w → V L (g fv) (a.eval fv) ∧ ∀ x, x ∈ args.toList → V L (g x) (a.eval x))
    (hw : ∀ L a w, Rel L C.N s a w → Region.wanted o (yielded ops a.tmps) = true) {f : FuncId} {as : List AV} (hc : callT (g fv) (args.toList.map g) = some (f, as))
    (h : ACall C.P f as s.h s.n (fun v h n => Sem C (.inRegion ops rest :: k) (s.put o.dst v h n))) : Sem C (.inRegion ops (i :: rest) :: k) s := by
  intro L a w hx hr cs
  obtain ⟨hfn, hcall⟩ := h
  obtain ⟨hg1, hg2⟩ := hgv L a w hr
  unfold callT at hc
  split at hc
  · rename_i f' first cap hq
    cases hc
    rw [hq] at hg1
    generalize hfe : a.eval fv = u at hg1
    cases hg1 with
    | fn _ _ _ us vs h1 h2 h3 h4 =>
      have hA := args_of hr (f := f) (as := first) (xs := first) g hg2 h1 h2 h3 h4
      obtain ⟨e, w', fr, hR, hsteps, hfr, hleave⟩ := hcall L w (us ++ args.map a.eval ++ vs) hA hr.good (C.base.atR a (.inRegion ops (i :: rest) :: k) :: cs)
      obtain ⟨x, v, h', n', L', rfl, q1, q2, q3, q4, q5⟩ := hR
      have hexec : (execOp a.eval o).run C.P w = .ok (.enter f (us ++ args.map a.eval ++ vs)) w := by
        unfold execOp
        simp only [hop, resolve, hfe, Deferred.ofValue, invoke, Sem.run_bind, Sem.run_pure, Result.andThen_ok, run_callFunc hfn]
      have hg := stepGR (C := C) (a := a) (k := k) (cs := cs) (w := w) (rest := rest) ho (hw L a w hr) (fun c e => by rw [hop] at e; cases e)
      have henter : _root_.Go.step C.P (lone (C.base.atR a (.inRegion ops (i :: rest) :: k)) cs w) = .next (lone (Frame.enter C.P f (us ++ args.map a.eval ++ vs) .normal) (C.base.atR a (.inRegion ops (i :: rest) :: k) :: cs) w) :=
        step_lone_go (by rw [hg]; simp [stepG.apply, hexec, Frame.atR])
      refine (q5 L' (a.put o.dst x) w' (hx.trans q1 (Act.put_defers _ _ _)) (hr.put q1 o.dst q3 q4 hd) cs).of_steps (.head henter (Steps.trans hsteps (.one ?_)))
      have hfin : ∀ v, (C.base.atR a (.inRegion ops (i :: rest) :: k)).finish v = C.base.atR (a.put o.dst v) (.inRegion ops rest :: k) := fun v => by
        rw [Frame.finish_atR, ho]; rfl
      rw [← hfin]
      exact step_leave_returned hleave
  · cases hc

/-- A call of a loop's round. -/
theorem Sem.yield {C : Cx} {ops : Array Oper} {i : Nat} {rest : List Nat} {k : List Item} {s : St} {o : Oper} {fv : Operand} {args : Array Operand} {ts : Array TypeId} (ho : ops[i]? = some o) (hop : o.op = .call ⟨.value fv, args, ts⟩) (hd : ∀ t, o.dst = some t → t < C.N)
    (g : Operand → AV) (hgv : ∀ L a w, Rel L C.N s a w → V L (g fv) (a.eval fv) ∧ ∀ x, x ∈ args.toList → V L (g x) (a.eval x))
    (hw : ∀ L a w, Rel L C.N s a w → Region.wanted o (yielded ops a.tmps) = true) {l : Nat} (hc : g fv = .yld l)
    (h : AYield C.P l (args.toList.map g) s.h s.n (fun v h n => Sem C (.inRegion ops rest :: k) (s.put o.dst v h n))) : Sem C (.inRegion ops (i :: rest) :: k) s := by
  intro L a w hx hr cs
  obtain ⟨hg1, hg2⟩ := hgv L a w hr
  rw [hc] at hg1
  generalize hfe : a.eval fv = u at hg1
  cases hg1 with
  | yld hmp =>
    rename_i r
    have hA := args_of (f := 0) (as := []) (xs := []) hr (first := []) (cap := []) (us := #[]) (vs := #[]) g hg2 rfl rfl (fun j c hj => by simp at hj) (fun j c hj => by simp at hj)
    simp only [List.nil_append, List.append_nil, Array.empty_append, Array.append_empty] at hA
    obtain ⟨f, tmps, asg, body, hrun, hround⟩ := h L w (args.map a.eval) r hA hr.good hmp
    obtain ⟨x, w', hR, hsteps⟩ := hround (C.base.atR a (.inRegion ops (i :: rest) :: k)) cs
    obtain ⟨x', v, h', n', L', hx', q1, q2, q3, q4, q5⟩ := hR
    cases hx'
    have hexec : (execOp a.eval o).run C.P w = .ok (.round r f tmps asg body) w := by
      unfold execOp
      simp only [hop, resolve, hfe, Deferred.ofValue, invoke, Sem.run_bind, Sem.run_pure, Result.andThen_ok, Array.empty_append, Array.append_empty, hrun]
    have hg := stepGR (C := C) (a := a) (k := k) (cs := cs) (w := w) (rest := rest) ho (hw L a w hr) (fun c e => by rw [hop] at e; cases e)
    have henter : _root_.Go.step C.P (lone (C.base.atR a (.inRegion ops (i :: rest) :: k)) cs w) = .next (lone (Frame.round r f tmps asg body .normal) (C.base.atR a (.inRegion ops (i :: rest) :: k) :: cs) w) :=
      step_lone_go (by rw [hg]; simp [stepG.apply, hexec, Frame.atR])
    refine (q5 L' (a.put o.dst x) w' (hx.trans q1 (Act.put_defers _ _ _)) (hr.put q1 o.dst q3 q4 hd) cs).of_steps (.head henter (Steps.trans hsteps ?_))
    have hfin : ∀ v, (C.base.atR a (.inRegion ops (i :: rest) :: k)).finish v = C.base.atR (a.put o.dst v) (.inRegion ops rest :: k) := fun v => by
      rw [Frame.finish_atR, ho]; rfl
    rw [← hfin]
    exact ⟨0, rfl⟩

end Go.AM
