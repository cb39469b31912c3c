/- An abstract machine over the model: code, calls entered and left, states weakened. -/
import Derived.Test.YtdocdnmbmikefaaAmXb
set_option linter.unusedVariables false
set_option linter.unusedSimpArgs false
namespace Go.AM

/-! ### The end -/
def resOne (C : Cx) (s : St) : ResultVar → Prop × AV
  | .tmp t => (True, look s.ρ t)
  | .cell a t => ((sLoad (tyOf C.P t) (look s.ρ a) s.h s.n).pre, (sLoad (tyOf C.P t) (look s.ρ a) s.h s.n).v)
def Fin (C : Cx) (s : St) (v : AV) : Prop := ∃ h' n', C.n0 ≤ n' ∧ Cut s.h h' n' ∧ WFh h' n' ∧ Sc n' v ∧ C.K v h' n'
def Ret (C : Cx) (s : St) : Prop :=
  match C.rs with
  | [r] => (resOne C s r).1 ∧ Fin C s (resOne C s r).2
  | rs => (∀ r, r ∈ rs → (resOne C s r).1) ∧ Fin C s (.tup (rs.map fun r => (resOne C s r).2))

def resSem (tmps : Array Value) : ResultVar → Go.Sem Value
  | .tmp t => pure (tmps.getD t undef)
  | .cell b t => do loadVar t (← asAddr (tmps.getD b undef))
theorem results_eq (fn : Func) (tmps : Array Value) : results fn tmps = (do let vs ← fn.results.mapM (resSem tmps); pure (if h : vs.size = 1 then vs[0] else .tuple vs)) := by
  unfold results
  congr 1
theorem res_run {C : Cx} {s : St} {L : Link} {a : Act} {w : World} (hr : Rel L C.N s a w) (r : ResultVar) (hp : (resOne C s r).1) :
    ∃ x, (resSem a.tmps r).run C.P w = .ok x w ∧ V L (resOne C s r).2 x := by
  cases r with
  | tmp t => exact ⟨_, rfl, hr.slots t⟩
  | cell b t =>
    obtain ⟨_, _, ad, y, h3, h4, h5⟩ := load_run hr.good (hr.slots b) hp
    exact ⟨y, by simp [resSem, h3, asAddr, h4], h5⟩
theorem res_all {C : Cx} {s : St} {L : Link} {a : Act} {w : World} (hr : Rel L C.N s a w) : ∀ (rs : List ResultVar), (∀ r, r ∈ rs → (resOne C s r).1) →
    ∃ xs : List Value, (rs.mapM (resSem a.tmps)).run C.P w = .ok xs w ∧ xs.length = rs.length ∧ ∀ (j : Nat) r, rs[j]? = some r → V L (resOne C s r).2 (xs.getD j undef)
  | [], _ => ⟨[], rfl, rfl, fun j r h => by simp at h⟩
  | r :: rs, hp => by
    obtain ⟨x, h1, h2⟩ := res_run hr r (hp r (by simp))
    obtain ⟨xs, h3, h4, h5⟩ := res_all hr rs (fun r hm => hp r (by simp [hm]))
    refine ⟨x :: xs, ?_, by simp [h4], fun j r' hj => ?_⟩
    · rw [List.mapM_cons, Sem.run_bind, h1, Result.andThen_ok, Sem.run_bind, h3]; rfl
    · cases j with
      | zero => simp at hj; subst hj; exact h2
      | succ j => simp at hj; simpa using h5 j r' hj
theorem results_run {C : Cx} {s : St} {L : Link} {a : Act} {w : World} (hr : Rel L C.N s a w) (h : Ret C s) : ∃ v x, (results C.fn a.tmps).run C.P w = .ok x w ∧ V L v x ∧ Fin C s v := by
  have hall : ∀ r, r ∈ C.rs → (resOne C s r).1 := by
    unfold Ret at h
    split at h
    · rename_i r hrs; rw [hrs]; intro r' hm; simp at hm; rw [hm]; exact h.1
    · exact h.1
  obtain ⟨xs, h1, h2, h3⟩ := res_all hr C.rs hall
  have hrun : (results C.fn a.tmps).run C.P w = .ok (if h : xs.toArray.size = 1 then xs.toArray[0] else .tuple xs.toArray) w := by
    rw [results_eq, Sem.run_bind, Array.mapM_eq_mapM_toList, Sem.run_map, C.hrs, h1]
    rfl
  unfold Ret at h
  split at h
  · rename_i r hrs
    rw [hrs] at h2 h3
    refine ⟨(resOne C s r).2, xs.getD 0 undef, ?_, h3 0 r rfl, h.2⟩
    rw [hrun]
    match xs, h2 with
    | [x], _ => rfl
  · rename_i hne
    refine ⟨_, .tuple xs.toArray, ?_, ?_, h.2⟩
    · rw [hrun, dif_neg]
      intro hl
      have hl' : C.rs.length = 1 := by rw [← h2]; simpa using hl
      match hc : C.rs, hl' with
      | [r], _ => exact hne r hc
    · refine .tup _ _ (by simp [h2]) fun j c hj => ?_
      rw [List.getElem?_map] at hj
      cases hq : C.rs[j]? with
      | none => rw [hq] at hj; cases hj
      | some r =>
        rw [hq] at hj
        cases hj
        have := h3 j r hq
        simpa [Array.getD_eq_getD_getElem?, List.getD_eq_getElem?_getD] using this

theorem Fin.post {C : Cx} {s : St} {L : Link} {a : Act} {w : World} {v : AV} {x : Value} (hx : Ext C.L0 L) (hr : Rel L C.N s a w) (hv : V L v x) (h : Fin C s v) : Post C.L0 C.n0 C.K (.returned x) w := by
  obtain ⟨h', n', h1, h2, h3, h4, h5⟩ := h
  exact ⟨x, v, h', n', L.cut n', rfl, Ext.cut C.hL hx h1, h1, hv.cut h4, hr.good.cut h2 h3, h5⟩

/-! #### the blocks for deferred calls are taken -/
def Link.drop (L : Link) (r : Nat) : Link := { L with R := fun b => if b = r then none else L.R b }
theorem Link.dropC {L : Link} {r : Nat} (h : L.R r = some (.deferred (some []))) : ExtC L (L.drop r) := by
  refine ⟨fun b o v hc => ?_, fun _ _ _ h => h, fun _ _ h => h⟩
  unfold cellR at hc ⊢
  simp only [Link.Rd, Link.drop] at hc ⊢
  by_cases hb : b = r
  · subst hb
    rw [h] at hc
    by_cases hf : L.fo b = true
    · rw [if_pos hf] at hc; cases hc
    · rw [if_neg hf] at hc; cases hc
  · rw [if_neg hb]; exact hc
theorem Good.drop {L : Link} {h : AHeap} {n : Nat} {w : World} {r : Nat} (hg : Good L h n w) (hr : L.R r = some (.deferred (some []))) : Good (L.drop r) h n (w.putObj r (.deferred none)) := by
  have hx := Link.dropC hr
  obtain ⟨own, gh, ho⟩ := hg.obs
  have hne : ∀ b, L.R b = none → b ≠ r ∧ (L.drop r).R b = none := fun b hb => ⟨fun e => by (rw [e, hr] at hb; cases hb), by (simp only [Link.drop]; split; rfl; exact hb)⟩
  have hh : ∀ b, L.R b = none → ∀ o, w.heap[b]? = some o → (w.putObj r (.deferred none)).heap[b]? = some o := fun b hb o hbo => by
    rw [World.putObj_heap_other (hne b hb).1]; exact hbo
  refine ⟨⟨own, gh, fun l ob hl => ?_⟩, fun b o hb => ?_, hg.fresh, hg.env.put r _ (fun _ _ _ e => by cases e) rfl rfl rfl rfl⟩
  · have hob := ho l ob hl
    cases ob with
    | cells v sz rows =>
      obtain ⟨h1, h2⟩ := hob
      refine ⟨h1, ?_⟩
      rcases h2 with ⟨h2, h3⟩ | ⟨b, o, cap, c, e, h2, h3, h4, h5, h6, h7, h8⟩
      · exact .inl ⟨h2, h3⟩
      · exact .inr ⟨b, o, cap, c, e, h2, hh b h5 _ h3, h4, (hne b h5).2, h6, h7, h8.1, fun i j row x hi hj => ⟨(h8.2 i j row x hi hj).1.monoC hx, (h8.2 i j row x hi hj).2⟩⟩
    | map pin agg kn es =>
      obtain ⟨b, ents, clock, h1, h2, h3, h4, h5, h6⟩ := hob
      exact ⟨b, ents, clock, h1, hh b h4 _ h2, h3, (hne b h4).2, ⟨h5.size, fun i p e hi he => ⟨(h5.ent i p e hi he).1, (h5.ent i p e hi he).2.monoC hx⟩, h5.wid, h5.one, h5.born, h5.last⟩, h6⟩
    | itr g cur left =>
      obtain ⟨b, rm, ents, clock, seen, h1, h2, h3, h4, h5, h6, h7, h8⟩ := hob
      exact ⟨b, rm, ents, clock, seen, h1, hh b h6 _ h2, hh rm h7 _ h3, h4, h5, (hne b h6).2, (hne rm h7).2, h8.map fun _ _ _ hv => hv.monoC hx⟩
    | loop st pend ρ f N ps asg body =>
      obtain ⟨b, tmps, df, h1, h2, h3, h4, h5, h6⟩ := hob
      exact ⟨b, tmps, df, h1, hh b h4 _ h2, h3, (hne b h4).2, h5, fun t => (h6 t).monoC hx⟩
  · simp only [Link.drop] at hb
    split at hb
    · cases hb
    · rename_i e; rw [World.putObj_heap_other e]; exact hg.ro b o hb

theorem step_take {P : Program} {fr : Frame} {cs : List Frame} {w : World} {r : Nat} {ds : List Deferred} (hm : fr.mode = .returning) (hd : fr.defers = coll r :: ds) (hr : w.heap[r]? = some (.deferred (some []))) :
    _root_.Go.step P (lone fr cs w) = .next (lone { fr with defers := ds } cs (w.putObj r (.deferred none))) :=
  step_lone_go (by simp [stepG, unwind, hm, hd, coll, Sem.runT_eq, run_takeDeferred hr])
theorem take_all {P : Program} {L0 : Link} {h : AHeap} {n : Nat} {cs : List Frame} : ∀ (rs : List Nat) (fr : Frame) (L : Link) (w : World), fr.mode = .returning → fr.defers = rs.map coll → rs.Nodup → (∀ r, r ∈ rs → L.R r = some (.deferred (some [])) ∧ L0.R r = none) → Ext L0 L → Good L h n w →
    ∃ L' w', Steps P (lone fr cs w) (lone { fr with defers := [] } cs w') ∧ Ext L0 L' ∧ ExtC L L' ∧ Good L' h n w'
  | [], fr, L, w, _, hd, _, _, hx, hg => ⟨L, w, by
      have : { fr with defers := [] } = fr := by cases fr; simp at hd; simp [hd]
      rw [this]; exact ⟨0, rfl⟩, hx, (Ext.refl L).toC, hg⟩
  | r :: rs, fr, L, w, hm, hd, hnd, hrs, hx, hg => by
    obtain ⟨h1, h2⟩ := hrs r (by simp)
    have hnd' := List.nodup_cons.1 hnd
    obtain ⟨L', w', q1, q2, q3, q4⟩ := take_all (P := P) (cs := cs) rs { fr with defers := rs.map coll } (L.drop r) (w.putObj r (.deferred none)) hm rfl hnd'.2 (fun r' hr' => by
      obtain ⟨z1, z2⟩ := hrs r' (by simp [hr'])
      refine ⟨?_, z2⟩
      simp only [Link.drop]
      rw [if_neg (fun e => hnd'.1 (by rw [← e]; exact hr'))]
      exact z1) ⟨hx.env, fun b o hb => by
        simp only [Link.drop]
        rw [if_neg (fun e => by rw [e, h2] at hb; cases hb)]
        exact hx.R b o hb, hx.fo, hx.pl, hx.mp⟩ (hg.drop h1)
    exact ⟨L', w', Steps.trans (.one (step_take hm hd (hg.ro _ _ h1))) q1, q2, ⟨fun b o v hc => q3.R _ _ _ ((Link.dropC h1).R _ _ _ hc), q3.pl, q3.mp⟩, q4⟩

theorem end_plain {C : Cx} {s : St} {L : Link} {a : Act} {w : World} {cs : List Frame} {m : Machine} {fr : Frame} (hro : C.ro = none) (hm : fr.mode = .returning) (hd : fr.defers = a.defers) (ht : fr.tmps = a.tmps) (hk : fr.kind = .normal) (hf : fr.fn = C.f) (hs : Steps C.P m (lone fr cs w)) (hx : XD C.L0 L a) (hr : Rel L C.N s a w) (h : Ret C s) : End C m cs := by
  obtain ⟨rs, d1, d2, d3⟩ := hx.ds
  obtain ⟨L', w', q1, q2, q3, q4⟩ := take_all (P := C.P) (cs := cs) rs fr L w hm (by rw [hd, d1]) d2 d3 hx.ext hr.good
  have hr' : Rel L' C.N s a w' := ⟨hr.size, fun t => (hr.slots t).monoC q3, q4⟩
  obtain ⟨v, x, h1, h2, h3⟩ := results_run hr' h
  unfold End
  rw [hro]
  exact ⟨.returned x, w', _, h3.post q2 hr' h2, Steps.trans hs q1, hf, hm, rfl, hk, C.fn, by show C.P.funcs[fr.fn]? = _; rw [hf]; exact C.hf, by show (results C.fn fr.tmps).run _ _ = _; rw [ht]; exact h1⟩

/-- A round's end, by a jump or none. -/
def RetR (C : Cx) (l : Nat) (j : Option Code) (s : St) : Prop :=
  match s.h l with
  | some (.loop _ _ ρ f N ps asg body) => Fin C ⟨s.ρ, upd s.h l (some (.loop (if j.isNone then .ready else .done) j ρ f N ps asg body)), s.n⟩ (.d (.bool j.isNone))
  | _ => False
def RetA (C : Cx) (j : Option Code) (s : St) : Prop :=
  match C.ro with
  | none => Ret C s
  | some (_, l) => RetR C l j s
def RetX (C : Cx) (j : Option Code) (s : St) : Prop :=
  match C.ro with
  | none => False
  | some (_, l) => RetR C l j s

theorem Good.putLoop {L : Link} {h : AHeap} {n : Nat} {w : World} {l r : Nat} {st st' : LoopState} {pend pend' : Option Code} {ρ : List (Nat × AV)} {f N : Nat} {ps : Array Tmp} {asg body : Code} (hg : Good L h n w) (hl : h l = some (.loop st pend ρ f N ps asg body)) (hr : L.mp l = some r) :
    ∃ tmps df, w.heap[r]? = some (.loop { state := st, pending := pend, fn := f, tmps := tmps, params := ps, assign := asg, body := body, defers := df }) ∧ tmps.size = N ∧ (∀ t, V L (look ρ t) (tmps.getD t undef)) ∧
      Good L (upd h l (some (.loop st' pend' ρ f N ps asg body))) n (w.putObj r (.loop { state := st', pending := pend', fn := f, tmps := tmps, params := ps, assign := asg, body := body, defers := df })) := by
  obtain ⟨own, gh, ho⟩ := hg.obs
  obtain ⟨r', tmps, df, h1, h2, h3, h4, h5, h6⟩ := ho l _ hl
  rw [hr] at h1
  cases h1
  have hlt : r < w.heap.size := by
    rcases Nat.lt_or_ge r w.heap.size with h' | h'
    · exact h'
    · rw [Array.getElem?_eq_none h'] at h2; cases h2
  refine ⟨tmps, df, h2, h5, h6, ⟨own, gh, fun k ob hk => ?_⟩, fun b o hb => ?_, hg.fresh, hg.env.put r _ (fun _ _ _ e => by cases e) rfl rfl rfl rfl⟩
  · simp only [upd] at hk
    split at hk
    · rename_i e
      subst e
      cases hk
      exact ⟨r, tmps, df, hr, World.putObj_heap_same hlt, h3, h4, h5, h6⟩
    · rename_i e
      refine (ho k ob hk).world fun b o hb hbo => ⟨?_, hb⟩
      rw [World.putObj_heap_other (fun e' => e (by rw [← hb, e', h3]))]
      exact hbo
  · rw [World.putObj_heap_other (fun e' => by rw [e', h4] at hb; cases hb)]
    exact hg.ro b o hb

theorem end_round {C : Cx} {s : St} {L : Link} {a : Act} {w : World} {cs : List Frame} {m : Machine} {r l : Nat} {j : Option Code} (hro : C.ro = some (r, l)) (hx : XD C.L0 L a) (hr : Rel L C.N s a w) (h : RetR C l j s)
    (hs : ∀ (c : Frame) cs' v w', cs = c :: cs' → (Instr.endRound r j).run C.P w = .ok v w' → Steps C.P m (lone (c.finish v) cs' w')) : End C m cs := by
  unfold RetR at h
  split at h
  · rename_i st pend ρ f N ps asg body hl
    obtain ⟨tmps, df, q1, q2, q3, q4⟩ := hr.good.putLoop (st' := if j.isNone then .ready else .done) (pend' := j) hl (hx.ext.mp _ _ (C.hro r l hro))
    have hrun := run_endRound (P := C.P) j q1
    have hr' : Rel L C.N ⟨s.ρ, upd s.h l (some (.loop (if j.isNone then .ready else .done) j ρ f N ps asg body)), s.n⟩ a _ := ⟨hr.size, hr.slots, q4⟩
    unfold End
    rw [hro]
    intro c cs' hc
    exact ⟨_, _, h.post hx.ext hr' (.d (.bool _)), hs c cs' _ _ hc hrun⟩
  · exact h.elim

theorem base_ro {C : Cx} (h : C.ro = none) : C.base.roundOf = none := by simp [Cx.base, h]
theorem base_round {C : Cx} {r l : Nat} (h : C.ro = some (r, l)) : C.base.roundOf = some r := by simp [Cx.base, h]
theorem Sem.ret {C : Cx} {k : List Item} {s : St} (h : RetA C (some .ret) s) : Sem C (.code .ret :: k) s := by
  intro L a w hx hr cs
  unfold RetA at h
  split at h
  · rename_i hro
    exact end_plain hro rfl rfl rfl rfl rfl (Steps.one (stepR_ret (base_ro hro))) hx hr h
  · rename_i r l hro
    exact end_round hro hx hr h fun c cs' v w' hc hrun => by subst hc; exact .one (stepR_round_ret (base_round hro) rfl hrun)
theorem Sem.fin {C : Cx} {s : St} (h : RetA C none s) : Sem C [] s := by
  intro L a w hx hr cs
  unfold RetA at h
  split at h
  · rename_i hro
    exact end_plain hro rfl rfl rfl rfl rfl (Steps.one (stepR_end (base_ro hro))) hx hr h
  · rename_i r l hro
    exact end_round hro hx hr h fun c cs' v w' hc hrun => by subst hc; exact .one (stepR_round_end (base_round hro) rfl hrun)
theorem Sem.exitOut {C : Cx} {id : Nat} {k : List Item} {s : St} (hk : exitTo id k = none) (h : RetX C (some (.exit id)) s) : Sem C (.code (.exit id) :: k) s := by
  intro L a w hx hr cs
  unfold RetX at h
  split at h
  · exact h.elim
  · rename_i r l hro
    exact end_round hro hx hr h fun c cs' v w' hc hrun => by subst hc; exact .one (stepR_round_exit (base_round hro) rfl hk hrun)

def numbered : Nat → List Oper → List (Nat × Oper)
  | _, [] => []
  | i, o :: l => (i, o) :: numbered (i + 1) l
theorem validL_numbered : ∀ (l : List Oper) (i : Nat) (pre : List Oper), pre.length = i → validL (pre ++ l).toArray (numbered i l)
  | [], _, _, _ => fun i o h => by cases h
  | x :: l, i, pre, hp => fun j o h => by
    rcases List.mem_cons.1 h with h | h
    · cases h; simp [← hp]
    · have := validL_numbered l (i + 1) (pre ++ [x]) (by simp [hp]) j o h
      simpa using this
theorem numbered_map : ∀ (l : List Oper) (i : Nat), (numbered i l).map (·.1) = List.range' i l.length
  | [], _ => rfl
  | _ :: l, i => by simp [numbered, numbered_map l (i + 1), List.range'_succ]
/-- What is to be shown of the rest of a call, whose code has been looked at. -/
def G (C : Cx) (k : List Item) (s : St) : Prop := todoOK C.N k = true → Sem C k s

/-! ### A call entered -/
structure EOK (P : Program) (E : FuncId → List AV → Option (Prop × AV)) : Prop where
  ok : ∀ f as p v, E f as = some (p, v) → p → ∀ h n K, K v h n → ACall P f as h n K
/-- No callee is reckoned. -/
def E0 : FuncId → List AV → Option (Prop × AV) := fun _ _ => none
theorem E0_ok (P : Program) : EOK P E0 := ⟨fun _ _ _ _ h => (by cases h)⟩
/-- One callee more. -/
def addE (E : FuncId → List AV → Option (Prop × AV)) (f : FuncId) (g : List AV → Option (Prop × AV)) : FuncId → List AV → Option (Prop × AV) := fun f' as => if f' = f then g as else E f' as
theorem addE_ok {P : Program} {E : FuncId → List AV → Option (Prop × AV)} {f : FuncId} {g : List AV → Option (Prop × AV)} (hE : EOK P E) (hg : ∀ as p v, g as = some (p, v) → p → ∀ h n K, K v h n → ACall P f as h n K) : EOK P (addE E f g) := by
  refine ⟨fun f' as p v h1 h2 h n K hk => ?_⟩
  unfold addE at h1
  split at h1
  · rename_i e; subst e; exact hg as p v h1 h2 h n K hk
  · exact hE.ok f' as p v h1 h2 h n K hk
def argsρ : Nat → List AV → List (Nat × AV)
  | _, [] => []
  | i, x :: r => (i, x) :: argsρ (i + 1) r
theorem look_args : ∀ (l : List AV) (i t : Nat), look (argsρ i l) t = if i ≤ t ∧ t < i + l.length then l.getD (t - i) .any else .any
  | [], i, t => by simp [argsρ, look]
  | x :: r, i, t => by
    rw [argsρ, look_cons, look_args r (i + 1) t]
    by_cases h : t = i
    · subst h; rw [if_pos rfl, if_pos (by simp)]; simp
    · rw [if_neg h]
      by_cases h2 : i + 1 ≤ t ∧ t < i + 1 + r.length
      · rw [if_pos h2, if_pos (by simp; omega)]
        obtain ⟨m, rfl⟩ : ∃ m, t = i + 1 + m := ⟨t - (i + 1), by omega⟩
        rw [show i + 1 + m - (i + 1) = m by omega, show i + 1 + m - i = m + 1 by omega]; simp
      · rw [if_neg h2, if_neg (by simp; omega)]

theorem enter {P : Program} {f : FuncId} {fn : Func} {c : Code} {N : Nat} {rs : List ResultVar} (hf : P.funcs[f]? = some fn) (hname : (fn.name == "runtime.NumGoroutine") = false) (hb : fn.body = some c) (hN : fn.ntmps = N) (hrs : fn.results.toList = rs)
    {E : FuncId → List AV → Option (Prop × AV)} (hE : EOK P E) (hm : P.follows .mixedOrders = true) (hok : okCode N c = true) (keep : List Nat) {args : List AV} {h : AHeap} {n : Nat} {K : AV → AHeap → Nat → Prop} (hlen : args.length ≤ N)
    (H : ∀ C : Cx, C.P = P → C.f = f → C.N = N → C.rs = rs → C.keep = keep → C.n0 = n → C.K = K → C.E = E → C.ro = none → WFh h n → (∀ x, x ∈ args → Sc n x) → G C [.code c] ⟨argsρ 0 args, h, n⟩) : ACall P f args h n K := by
  refine ⟨⟨fn, hf, hname, by rw [hb]; rfl⟩, fun L w xs hA hg cs => ?_⟩
  have hsc : ∀ x, x ∈ args → Sc n x := fun x hx => by
    obtain ⟨j, hj⟩ := List.getElem?_of_mem hx
    exact (hA.2 j x hj).sc hg.fresh
  let C : Cx := ⟨P, f, fn, N, rs, keep, E, L, n, none, K, hf, hN, hrs, hE.ok, hm, hg.fresh, fun _ _ h => by cases h⟩
  have hs := H C rfl rfl rfl rfl rfl rfl rfl rfl rfl hg.wf hsc (by show (okCode N c && true) = true; rw [hok]; rfl) L { tmps := xs ++ Array.replicate (fn.ntmps - xs.size) undef, defers := [] } w ⟨Ext.refl L, [], rfl, List.nodup_nil, fun r hr => by cases hr⟩ ⟨by show _ = N; simp [hN, hA.1]; omega, fun t => ?_, hg⟩ cs
  · have henter : Frame.enter P f xs .normal = C.base.atR { tmps := xs ++ Array.replicate (fn.ntmps - xs.size) undef, defers := [] } [.code c] := by
      simp [Frame.enter, Frame.atR, hf, hb, Cx.base, C]
    rw [henter]
    unfold End at hs
    exact hs
  · rw [look_args]
    split
    · rename_i ht
      have hlt : t < args.length := by omega
      rw [getD_app1 _ _ (by rw [hA.1]; exact hlt)]
      refine hA.2 t _ ?_
      simp [List.getD_eq_getElem?_getD, hlt]
    · exact .any _

/-! ### Weaker states -/
def Sub (x y : AV) : Prop := ∀ L u, V L x u → V L y u
theorem Sub.refl (x : AV) : Sub x x := fun _ _ h => h
theorem Sub.any (x : AV) : Sub x .any := fun _ u _ => .any u
theorem Sub.nilS : Sub (.d .nilS) (.d (.ro [])) := fun L u h => by rw [V_nilS h]; exact .d .roN
theorem Sub.roZ : Sub (.d .roZ) (.d (.ro [])) := fun L u h => by cases h with | d h => cases h; exact .d (.roE _ _)
theorem Sub.optT {x : AV} : Sub (.opt true x) x := fun L u h => by cases h; assumption

theorem G.weak {C : Cx} {k : List Item} {s : St} (s' : St) (hn : C.n0 ≤ s'.n) (hρ : ∀ p, p ∈ s'.ρ → Sub (look s.ρ p.1) p.2 ∧ Sc s'.n p.2) (hc : Cut s.h s'.h s'.n) (hw : WFh s'.h s'.n) (h : G C k s') : G C k s := by
  intro hok L a w hx hr cs
  refine h hok (L.cut s'.n) a w ⟨Ext.cut C.hL hx.ext hn, hx.ds⟩ ⟨hr.size, fun t => ?_, hr.good.cut hc hw⟩ cs
  have key : ∀ l : List (Nat × AV), (∀ p, p ∈ l → Sub (look s.ρ p.1) p.2 ∧ Sc s'.n p.2) → V (L.cut s'.n) (look l t) (a.tmps.getD t undef) := fun l => by
    induction l with
    | nil => intro _; exact .any _
    | cons p l ih =>
      intro hl
      obtain ⟨k, v⟩ := p
      rw [look_cons]
      split
      · rename_i e
        subst e
        obtain ⟨h1, h2⟩ := hl (t, v) (by simp)
        exact (h1 L _ (hr.slots t)).cut h2
      · exact ih fun p hm => hl p (by simp [hm])
  exact key s'.ρ hρ

theorem ACall.sub {P : Program} {f : FuncId} {args args' : List AV} {h : AHeap} {n : Nat} {K : AV → AHeap → Nat → Prop} (hl : args.length = args'.length) (hs : ∀ (j : Nat) (x y : AV), args[j]? = some x → args'[j]? = some y → Sub x y) (hc : ACall P f args' h n K) : ACall P f args h n K := by
  refine ⟨hc.1, fun L w xs hA hg => hc.2 L w xs ⟨by rw [hA.1, hl], fun j c hj => ?_⟩ hg⟩
  have hlt : j < args.length := by rw [hl]; exact (List.getElem?_eq_some_iff.1 hj).1
  exact hs j _ c (List.getElem?_eq_getElem hlt) hj L _ (hA.2 j _ (List.getElem?_eq_getElem hlt))
theorem ACall.mono {P : Program} {f : FuncId} {args : List AV} {h : AHeap} {n : Nat} {K K' : AV → AHeap → Nat → Prop} (hc : ACall P f args h n K) (hk : ∀ v h n, K v h n → K' v h n) : ACall P f args h n K' :=
  ⟨hc.1, fun L w xs h1 h2 => (hc.2 L w xs h1 h2).mono fun e w' h3 => by
    obtain ⟨x, v, h', n', L', q0, q1, q2, q3, q4, q5⟩ := h3
    exact ⟨x, v, h', n', L', q0, q1, q2, q3, q4, hk _ _ _ q5⟩⟩

/-! ### What is kept below a name -/
theorem Cut.refl (h : AHeap) (n : Nat) (hw : WFh h n) : Cut h h n := fun l ob hl => ⟨hl, (hw l ob hl).1⟩
/-- New objects are dropped. -/
theorem Cut.upd {h h' : AHeap} {n l : Nat} {o : Option AOb} (hc : Cut h h' n) (hl : n ≤ l) : Cut (upd h l o) h' n := fun k ob hk => by
  obtain ⟨h1, h2⟩ := hc k ob hk
  exact ⟨by rw [upd_ne _ _ (by omega)]; exact h1, h2⟩
/-- One that stays. -/
theorem Cut.keep {h h' : AHeap} {n l : Nat} {o : Option AOb} (hc : Cut h h' n) (hl : l < n) : Cut (AM.upd h l o) (AM.upd h' l o) n := fun k ob hk => by
  simp only [AM.upd] at hk ⊢
  split
  · rename_i e; rw [if_pos e] at hk; exact ⟨hk, by omega⟩
  · rename_i e; rw [if_neg e] at hk; exact hc k ob hk
theorem WFh.mono {h : AHeap} {n m : Nat} (hw : WFh h n) (hm : n ≤ m) (hs : ∀ l ob, h l = some ob → ScOb n ob → ScOb m ob) : WFh h m := fun l ob hl => by
  obtain ⟨h1, h2⟩ := hw l ob hl
  exact ⟨by omega, hs l ob hl h2⟩
theorem Sc.mono {n m : Nat} (hm : n ≤ m) {x : AV} (h : Sc n x) : Sc m x := by
  induction h with
  | d x => exact .d x
  | rp cs => exact .rp cs
  | ptr v i off h => exact .ptr v i off (by omega)
  | arr v i len h => exact .arr v i len (by omega)
  | map h => exact .map (by omega)
  | itr h => exact .itr (by omega)
  | yld h => exact .yld (by omega)
  | fn f xs ys _ _ h h' => exact .fn f xs ys h h'
  | agg cs _ h => exact .agg cs h
  | tup cs _ h => exact .tup cs h
  | opt b v _ h => exact .opt b v h
  | any => exact .any
theorem ScOb.mono {n m : Nat} (hm : n ≤ m) {ob : AOb} (h : ScOb n ob) : ScOb m ob := by
  cases ob with
  | cells v sz rows => exact fun row hr x hx => (h row hr x hx).mono hm
  | map pin agg kn es => exact fun p hp => (h p hp).mono hm
  | itr g cur left => exact ⟨fun p hp => (h.1 p hp).mono hm, fun p hp => (h.2 p hp).mono hm⟩
  | loop st pend ρ f N ps asg body => exact fun t => (h t).mono hm
theorem WFh.up {h : AHeap} {n m : Nat} (hw : WFh h n) (hm : n ≤ m) : WFh h m := fun l ob hl => by
  obtain ⟨h1, h2⟩ := hw l ob hl
  exact ⟨by omega, h2.mono hm⟩
theorem WFh.upd {h : AHeap} {n l : Nat} {o : Option AOb} (hw : WFh h n) (hl : l < n) (ho : ∀ ob, o = some ob → ScOb n ob) : WFh (AM.upd h l o) n := fun k ob hk => by
  simp only [AM.upd] at hk
  split at hk
  · rename_i e; exact ⟨by omega, ho ob hk⟩
  · exact hw k ob hk
end Go.AM
