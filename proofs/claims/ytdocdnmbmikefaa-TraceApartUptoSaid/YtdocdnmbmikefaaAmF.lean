/- An abstract machine over the model: loops that range over a function. -/
import Derived.Test.YtdocdnmbmikefaaAmZ
set_option linter.unusedVariables false
set_option linter.unusedSimpArgs false
namespace Go.AM

def roundρ (ps : List Nat) (args : List AV) (ρ : List (Nat × AV)) : List (Nat × AV) :=
  match ps, args with
  | t :: ts, x :: xs => roundρ ts xs ((t, x) :: ρ)
  | _, _ => ρ

theorem foldl_round {L : Link} : ∀ (ps : List Nat) (args : List AV) (xs : List Value) (tmps : Array Value) (ρ : List (Nat × AV)), xs.length = args.length → (∀ p, p ∈ ps → p < tmps.size) → (∀ j c, args[j]? = some c → V L c (xs.getD j undef)) → (∀ t, V L (look ρ t) (tmps.getD t undef)) →
    ((ps.zip xs).foldl (fun tmps (t, a) => tmps.setIfInBounds t a) tmps).size = tmps.size ∧ ∀ t, V L (look (roundρ ps args ρ) t) (((ps.zip xs).foldl (fun tmps (t, a) => tmps.setIfInBounds t a) tmps).getD t undef)
  | [], args, xs, tmps, ρ, _, _, _, h => ⟨rfl, h⟩
  | p :: ps, [], xs, tmps, ρ, hl, _, _, h => by
    obtain rfl : xs = [] := List.eq_nil_of_length_eq_zero (by simpa using hl)
    exact ⟨rfl, h⟩
  | p :: ps, x :: args, [], tmps, ρ, hl, _, _, h => by simp at hl
  | p :: ps, x :: args, v :: xs, tmps, ρ, hl, hp, hv, h => by
    have h0 := hv 0 x rfl
    obtain ⟨q1, q2⟩ := foldl_round (L := L) ps args xs (tmps.setIfInBounds p v) ((p, x) :: ρ) (by simpa using hl) (fun p' hp' => by simp; exact hp p' (by simp [hp'])) (fun j c hj => by simpa using hv (j + 1) c (by simpa using hj)) (fun t => by
      have hps := hp p (by simp)
      rw [look_cons]
      by_cases ht : t = p
      · subst ht
        rw [if_pos rfl]
        simp [Array.getD_eq_getD_getElem?, Array.getElem?_setIfInBounds, hps]
        simpa using h0
      · rw [if_neg ht]
        have := h t
        simp only [Array.getD_eq_getD_getElem?] at this ⊢
        rw [Array.getElem?_setIfInBounds, if_neg (fun e => ht e.symm)]
        exact this)
    refine ⟨by simpa using q1, q2⟩

theorem enterRound {P : Program} {l : Nat} {f : FuncId} {fn : Func} {N : Nat} {rs : List ResultVar} (hf : P.funcs[f]? = some fn) (hN : fn.ntmps = N) (hrs : fn.results.toList = rs)
    {E : FuncId → List AV → Option (Prop × AV)} (hE : EOK P E) (hm : P.follows .mixedOrders = true) {ps : Array Tmp} {asg body : Code} (hok1 : okCode N asg = true) (hok2 : okCode N body = true) (keep : List Nat) {args : List AV} {h : AHeap} {n : Nat} {K : AV → AHeap → Nat → Prop}
    {pend : Option Code} {ρ : List (Nat × AV)} (hl : h l = some (.loop .ready pend ρ f N ps asg body)) (hps : ∀ p, p ∈ ps.toList → p < N) (hsz : args.length = ps.size)
    (H : ∀ (C : Cx) (r : Nat), C.P = P → C.f = f → C.N = N → C.rs = rs → C.keep = keep → C.n0 = n → C.K = K → C.E = E → C.ro = some (r, l) → WFh h n → (∀ x, x ∈ args → Sc n x) → (∀ t, Sc n (look ρ t)) → G C [.code asg, .beginRound, .code body] ⟨roundρ ps.toList args ρ, h, n⟩) : AYield P l args h n K := by
  intro L w xs r hA hg hr
  have hsc : ∀ x, x ∈ args → Sc n x := fun x hx => by
    obtain ⟨j, hj⟩ := List.getElem?_of_mem hx
    exact (hA.2 j x hj).sc hg.fresh
  obtain ⟨tmps, df, q1, q2, q3, _⟩ := hg.putLoop (st' := .ready) (pend' := none) hl hr
  let C : Cx := ⟨P, f, fn, N, rs, keep, E, L, n, some (r, l), K, hf, hN, hrs, hE.ok, hm, hg.fresh, fun r' l' e => by cases e; exact hr⟩
  have hrun := run_yield (P := P) (args := xs) q1 (by simp; rw [hA.1, hsz])
  refine ⟨_, _, _, _, hrun, fun c cs => ?_⟩
  obtain ⟨z1, z2⟩ := foldl_round (L := L) ps.toList args xs.toList tmps ρ (by simpa using hA.1) (fun p hp => by rw [q2]; exact hps p hp) (fun j c hj => by simpa [Array.getD_eq_getD_getElem?, List.getD_eq_getElem?_getD] using hA.2 j c hj) q3
  have hzip : ((ps.zip xs).foldl (fun tmps (t, a) => tmps.setIfInBounds t a) tmps) = ((ps.toList.zip xs.toList).foldl (fun tmps (t, a) => tmps.setIfInBounds t a) tmps) := by
    rw [← Array.foldl_toList, Array.toList_zip]
  have hs := H C r rfl rfl rfl rfl rfl rfl rfl rfl rfl hg.wf hsc (fun t => (q3 t).sc hg.fresh) (by
    show (okCode N asg && (true && (okCode N body && true))) = true
    rw [hok1, hok2]; rfl) L { tmps := (ps.zip xs).foldl (fun tmps (t, a) => tmps.setIfInBounds t a) tmps, defers := [] } w ⟨Ext.refl L, [], rfl, List.nodup_nil, fun r hr => by cases hr⟩
    ⟨by show _ = N; rw [hzip, z1, q2], fun t => by show V L _ (Array.getD _ t undef); rw [hzip]; exact z2 t, hg⟩ (c :: cs)
  unfold End at hs
  exact hs c cs rfl

/-- A round begins. -/
theorem Sem.beginRound {C : Cx} {k : List Item} {s : St} {r l : Nat} {pend : Option Code} {ρ : List (Nat × AV)} {f N : Nat} {ps : Array Tmp} {asg body : Code} (hro : C.ro = some (r, l)) (hl : s.h l = some (.loop .ready pend ρ f N ps asg body))
    (h : Sem C k ⟨s.ρ, upd s.h l (some (.loop .busy pend ρ f N ps asg body)), s.n⟩) : Sem C (.beginRound :: k) s := by
  intro L a w hx hr cs
  obtain ⟨tmps, df, q1, q2, q3, q4⟩ := hr.good.putLoop (st' := .busy) (pend' := pend) hl (hx.ext.mp _ _ (C.hro r l hro))
  exact (h L a _ hx ⟨hr.size, hr.slots, q4⟩ cs).of_steps (.one (stepR_beginRound (base_round hro) (run_beginRound q1 rfl)))
def sBegin (C : Cx) (kf : St → Prop) (s : St) : Prop :=
  match C.ro with
  | none => False
  | some (_, l) => match s.h l with
    | some (.loop .ready pend ρ f N ps asg body) => kf ⟨s.ρ, upd s.h l (some (.loop .busy pend ρ f N ps asg body)), s.n⟩
    | _ => False
theorem sBegin_sound {C : Cx} {k : List Item} {s : St} (h : sBegin C (Sem C k) s) : Sem C (.beginRound :: k) s := by
  unfold sBegin at h
  split at h
  · exact h.elim
  · rename_i r l hro
    split at h
    · rename_i hl; exact Sem.beginRound hro hl h
    · exact h.elim

/-! ### The loop itself -/
theorem Good.newR {L : Link} {h : AHeap} {n : Nat} {w : World} (hg : Good L h n w) :
    ∃ L', Ext L L' ∧ L'.R w.heap.size = some (.deferred (some [])) ∧ Good L' h n (w.alloc (.deferred (some []))) := by
  have h0 : L.R w.heap.size = none := R_lt hg
  have hx : Ext L { L with R := fun b => if b = w.heap.size then some (.deferred (some [])) else L.R b } := ⟨rfl, fun b o hb => by
    simp only
    rw [if_neg (fun e => by rw [e, h0] at hb; cases hb)]; exact hb, fun _ _ _ => rfl, fun _ _ _ h => h, fun _ _ h => h⟩
  refine ⟨_, hx, by simp, ?_, fun b o hb => ?_, hg.fresh, hg.env.alloc _ fun _ _ _ e => by cases e⟩
  · obtain ⟨own, gh, ho⟩ := hg.obs
    refine ⟨own, gh, fun l ob hl => ?_⟩
    have hob := ho l ob hl
    have hlt : ∀ b o, w.heap[b]? = some o → b ≠ w.heap.size := fun b o hb e => by rw [e, Array.getElem?_eq_none (Nat.le_refl _)] at hb; cases hb
    have hh : ∀ b o, w.heap[b]? = some o → L.R b = none → (w.alloc (.deferred (some []))).heap[b]? = some o ∧ (if b = w.heap.size then some (Obj.deferred (some [])) else L.R b) = none := fun b o hb hR => ⟨heap_alloc_lt w _ hb, by rw [if_neg (hlt b o hb)]; exact hR⟩
    cases ob with
    | cells v sz rows =>
      obtain ⟨h1, h2⟩ := hob
      refine ⟨h1, ?_⟩
      rcases h2 with ⟨h2, h3⟩ | ⟨b, o, cap, c, e, h2, h3, h4, h5, h6, h7, h8⟩
      · exact .inl ⟨h2, h3⟩
      · exact .inr ⟨b, o, cap, c, e, h2, (hh b _ h3 h5).1, h4, (hh b _ h3 h5).2, h6, h7, h8.mono hx⟩
    | map pin agg kn es =>
      obtain ⟨b, ents, clock, h1, h2, h3, h4, h5, h6⟩ := hob
      exact ⟨b, ents, clock, h1, (hh b _ h2 h4).1, h3, (hh b _ h2 h4).2, h5.mono hx, h6⟩
    | itr g cur left =>
      obtain ⟨b, rm, ents, clock, seen, h1, h2, h3, h4, h5, h6, h7, h8⟩ := hob
      exact ⟨b, rm, ents, clock, seen, h1, (hh b _ h2 h6).1, (hh rm _ h3 h7).1, h4, h5, (hh b _ h2 h6).2, (hh rm _ h3 h7).2, h8.mono hx⟩
    | loop st pend ρ f N ps asg body =>
      obtain ⟨b, tmps, df, h1, h2, h3, h4, h5, h6⟩ := hob
      exact ⟨b, tmps, df, h1, (hh b _ h2 h4).1, h3, (hh b _ h2 h4).2, h5, fun t => (h6 t).mono hx⟩
  · simp only at hb
    split at hb
    · rename_i e; cases hb; rw [e]; exact heap_alloc_at w _
    · exact heap_alloc_lt w _ (hg.ro b o hb)
theorem Good.newLoop {L : Link} {h : AHeap} {n : Nat} {w : World} (hg : Good L h n w) (st : LoopState) (pend : Option Code) (ρ : List (Nat × AV)) (f N : Nat) (ps : Array Tmp) (asg body : Code) (tmps : Array Value) (df : Nat) (h1 : tmps.size = N) (h2 : ∀ t, V L (look ρ t) (tmps.getD t undef)) :
    ∃ L', Ext L L' ∧ L'.mp n = some w.heap.size ∧ Good L' (upd h n (some (.loop st pend ρ f N ps asg body))) (n + 1) (w.alloc (.loop { state := st, pending := pend, fn := f, tmps := tmps, params := ps, assign := asg, body := body, defers := df })) := by
  have hx : Ext L (L.putM n w.heap.size) := Link.ext_putM (hg.fresh n (Nat.le_refl _)).2 _
  obtain ⟨own, gh, ho⟩ := hg.obs
  refine ⟨L.putM n w.heap.size, hx, by simp [Link.putM], ⟨fun b => if b = w.heap.size then n else own b, gh, fun l ob hl => ?_⟩, fun b o hb => heap_alloc_lt w _ (hg.ro b o hb), fun l hl => ?_, hg.env.alloc _ fun _ _ _ e => by cases e⟩
  · simp only [upd] at hl
    split at hl
    · rename_i e
      subst e
      cases hl
      exact ⟨w.heap.size, tmps, df, by simp [Link.putM], heap_alloc_at w _, by simp, (R_lt hg : L.R _ = Option.none), h1, fun t => (h2 t).mono hx⟩
    · refine ((ho l ob hl).mono hx rfl (fun _ h => h)).world fun b o eb hb => ⟨heap_alloc_lt w _ hb, ?_⟩
      have hb' : b < w.heap.size := by
        rcases Nat.lt_or_ge b w.heap.size with h' | h'
        · exact h'
        · rw [Array.getElem?_eq_none h'] at hb; cases hb
      show (if b = w.heap.size then n else own b) = l
      rw [if_neg (by omega)]; exact eb
  · have := hg.fresh l (by omega)
    exact ⟨this.1, by simp only [Link.putM]; rw [if_neg (by omega)]; exact this.2⟩
theorem Good.less {L : Link} {h : AHeap} {n : Nat} {w : World} (hg : Good L h n w) (l : Nat) : Good L (upd h l none) n w := by
  obtain ⟨own, gh, ho⟩ := hg.obs
  refine ⟨⟨own, gh, fun k ob hk => ?_⟩, hg.ro, hg.fresh, hg.env⟩
  simp only [upd] at hk
  split at hk
  · cases hk
  · exact ho k ob hk

theorem Sem.rangeFunc {C : Cx} {k : List Item} {s : St} {f : Operand} {ps : Array Tmp} {asg body : Code} (hro : C.ro = none) {g : FuncId} {first cap : List AV} (hv : ev s.ρ f = .fn (.func g) first cap)
    (h : ACall C.P g (first ++ [.yld s.n] ++ cap) (upd s.h s.n (some (.loop .ready none s.ρ C.f C.N ps asg body))) (s.n + 1) (fun _ h' n' => match h' s.n with
      | some (.loop st pend _ _ _ _ _ _) => st ≠ .busy ∧ Sem C ((pend.map Item.code).toList ++ k) ⟨s.ρ, upd h' s.n none, n'⟩
      | _ => False)) : Sem C (.code (.rangeFunc f ps asg body) :: k) s := by
  intro L a w hx hr cs
  obtain ⟨hfn, hcall⟩ := h
  have hg0 := hr.ev f
  rw [hv] at hg0
  generalize hfe : a.eval f = u at hg0
  cases hg0 with
  | fn _ _ _ us vs h1 h2 h3 h4 =>
  obtain ⟨L1, x1, x2, x3⟩ := hr.good.newR
  obtain ⟨L2, y1, y2, y3⟩ := x3.newLoop .ready none s.ρ C.f C.N ps asg body a.tmps w.heap.size hr.size (fun t => (hr.slots t).mono x1)
  have hsz : (w.alloc (.deferred (some []))).heap.size = w.heap.size + 1 := Array.size_push _
  rw [hsz] at y2
  have x12 := x1.trans y1
  have hA : Args L2 (first ++ [.yld s.n] ++ cap) (us ++ #[.func (.yield (w.heap.size + 1)) #[] #[]] ++ vs) := by
    refine ⟨by simp [h1, h2]; omega, fun j c hj => ?_⟩
    have e1 : ∀ (A B : Array Value) (j : Nat), A.size ≤ j → (A ++ B).getD j undef = B.getD (j - A.size) undef := fun A B j h => by
      simp only [Array.getD_eq_getD_getElem?]
      rw [Array.getElem?_append_right h]
    rw [List.append_assoc, List.getElem?_append] at hj
    rw [Array.append_assoc]
    by_cases ha : j < first.length
    · rw [if_pos ha] at hj
      rw [getD_app1 _ _ (by omega)]
      exact (h3 j c hj).mono x12
    · rw [if_neg ha] at hj
      rw [e1 _ _ _ (by omega), h1]
      generalize j - first.length = m at hj ⊢
      cases m with
      | zero =>
        simp at hj
        subst hj
        rw [getD_app1 _ _ (by simp)]
        exact .yld y2
      | succ m =>
        rw [e1 _ _ _ (by simp)]
        have hj : cap[m]? = some c := by simpa using hj
        exact (h4 m c hj).mono x12
  obtain ⟨e, w', fr, hR, hsteps, hfr, hleave⟩ := hcall L2 _ _ hA y3 (C.base.atR ⟨a.tmps, coll w.heap.size :: a.defers⟩ (.inRangeFunc (w.heap.size + 1) :: k) :: cs)
  obtain ⟨x, v, h', n', L', rfl, q1, q2, q3, q4, q5⟩ := hR
  split at q5
  rotate_left
  · exact q5.elim
  rename_i st pend ρ' f' N' ps' asg' body' hl'
  obtain ⟨q5, q6⟩ := q5
  obtain ⟨tmps', df', z1, z2, z3, z4⟩ := q4.putLoop (st' := .exhausted) (pend' := pend) hl' (q1.mp _ _ y2)
  have hL' : Ext L L' := x12.trans q1
  obtain ⟨rs, d1, d2, d3⟩ := hx.ds
  have hx' : XD C.L0 L' ⟨a.tmps, coll w.heap.size :: a.defers⟩ := by
    refine ⟨hx.ext.trans hL', w.heap.size :: rs, by simp [d1], List.nodup_cons.2 ⟨fun hm => ?_, d2⟩, fun r hm => ?_⟩
    · have := (d3 _ hm).1
      rw [R_lt hr.good] at this; cases this
    · rcases List.mem_cons.1 hm with rfl | hm
      · refine ⟨q1.R _ _ (y1.R _ _ x2), ?_⟩
        cases hq : C.L0.R w.heap.size with
        | none => rfl
        | some o => have := hx.ext.R _ _ hq; rw [R_lt hr.good] at this; cases this
      · exact ⟨hL'.R _ _ (d3 r hm).1, (d3 r hm).2⟩
  have hr' : Rel L' C.N ⟨s.ρ, upd h' s.n none, n'⟩ ⟨a.tmps, coll w.heap.size :: a.defers⟩ (w'.putObj (w.heap.size + 1) (.loop { state := .exhausted, pending := pend, fn := f', tmps := tmps', params := ps', assign := asg', body := body', defers := df' })) := by
    refine ⟨hr.size, fun t => (hr.slots t).mono hL', ?_⟩
    have := z4.less s.n
    rw [upd_upd] at this
    exact this
  refine (q6 L' _ _ hx' hr' cs).of_steps (.head ?_ (Steps.trans hsteps (.head (step_leave_returned hleave) (.one ?_))))
  · have hent := run_enterLoop_outer (P := C.P) (w := w) C.f a.tmps ps asg body
    refine step_lone_go ?_
    have he : ∀ (t : List Item) (d : List Deferred), (Frame.mk C.f a.tmps t d .run .normal none).eval = a.eval := fun t d => funext fun x => by cases x <;> rfl
    have hsem : ∀ (fr : Frame) (W : World), fr.eval = a.eval → (do let d ← resolve fr.eval { callee := .value f, args := #[.const (.func (.yield (w.heap.size + 1)) #[] #[])], argTypes := #[] } 0; invoke d.target d.args : Go.Sem Next).run C.P W = .ok (.enter g (us ++ #[.func (.yield (w.heap.size + 1)) #[] #[]] ++ vs)) W := fun fr W hf => by
      have hc : fr.eval (.const (.func (.yield (w.heap.size + 1)) #[] #[])) = .func (.yield (w.heap.size + 1)) #[] #[] := rfl
      rw [hf] at hc
      simp only [resolve, hf, hfe, Deferred.ofValue, invoke, Sem.run_bind, Sem.run_pure, Result.andThen_ok, List.map_toArray, List.map_cons, List.map_nil, hc, run_callFunc hfn]
    have h2 := hsem (C.base.atR ⟨a.tmps, coll w.heap.size :: a.defers⟩ (.inRangeFunc (w.heap.size + 1) :: k)) ((w.alloc (.deferred (some []))).alloc (.loop { state := .ready, pending := none, fn := C.f, tmps := a.tmps, params := ps, assign := asg, body := body, defers := w.heap.size })) (Frame.eval_atR _ _ _)
    simp only [Frame.atR, Cx.base, hro, Option.map_none, coll] at h2
    simp only [stepG, stepG.exec, Frame.atR, Cx.base, hro, Option.map_none, Sem.runT_eq, hent, stepG.apply, coll, List.singleton_append]
    simp [h2]
  · refine step_lone_go ?_
    have hend := run_endLoop (P := C.P) z1 q5
    simp [stepG, stepG.exec, Frame.atR, Frame.finish, Sem.runT_eq, hend]
end Go.AM
