/- An abstract machine over the model: regions whose order is open. One walk in the text's order serves every order. -/
import Derived.Test.YtdocdnmbmikefaaAmH
set_option linter.unusedVariables false
set_option linter.unusedSimpArgs false
namespace Go.AM

/-- What an operation of such a region gives: its condition, value, memory. No call but of the reckoned callees. -/
def xrF (g : Bool) (h : AHeap) (n : Nat) : Option R1 := if g = true then none else some ⟨True, .tup [], h, n⟩
theorem xrF_some {g : Bool} {h : AHeap} {n : Nat} {r : R1} (hx : xrF g h n = some r) : g = false ∧ r = ⟨True, .tup [], h, n⟩ := by
  unfold xrF at hx; cases g <;> simp at hx; exact ⟨rfl, hx.symm⟩
def xr (C : Cx) (ops : Array Oper) (o : Oper) (ρ : List (Nat × AV)) (h : AHeap) (n : Nat) : Option R1 :=
  match o.guard with
  | none => match o.op with
    | .call ⟨.value fv, args, _⟩ => match callT (ev ρ fv) (args.toList.map (ev ρ)) with
      | none => none
      | some (f, as) => match xc C.E f as h with
        | some (p, v) => some ⟨p, v, h, n⟩
        | none => none
    | op => some (step C.P (ev ρ) h n op)
  | some (j, want) => match gv ρ ((ops[j]?).bind (·.dst)) want with
    | none => none
    | some g => match o.op with
      | .call ⟨.value fv, args, _⟩ => match callT (strip (ev ρ fv)) (args.toList.map fun x => strip (ev ρ x)) with
        | none => xrF g h n
        | some (f, as) => match xc C.E f as h with
          | some (p, v) => some ⟨g = true → optOK (ev ρ fv) ∧ optAll ρ args.toList ∧ p, .opt g v, h, n⟩
          | none => xrF g h n
      | op => if isQuiet op then some ⟨g = true → (stepO C.P ρ h n op).pre, .opt g (stepO C.P ρ h n op).v, h, n⟩ else none
def nameOf : AV → Option Nat
  | .ptr l _ _ _ => some l
  | .arr l _ _ _ => some l
  | .map l => some l
  | _ => none
def rdOf (o : Oper) (ρ : List (Nat × AV)) : Option Nat :=
  match o.guard with
  | some _ => none
  | none => match mainRd o.op with
    | some x => nameOf (ev ρ x)
    | none => none
def wrOf (o : Oper) (ρ : List (Nat × AV)) : Option Nat :=
  match o.guard with
  | some _ => none
  | none => match mainWr o.op with
    | some x => nameOf (ev ρ x)
    | none => none
def hasE : List Edge → Nat → Bool
  | [], _ => false
  | e :: r, i => if Region.binds .any e && e.on == i then true else hasE r i
/-- Does an operation come behind another one in any order? -/
def fol (ops : Array Oper) (i : Nat) (es : List Edge) (p : Nat) : Bool := if hasE es p = true then true else ordB ops ops.size p i
def dynL (ops : Array Oper) (i : Nat) (es : List Edge) (l0 : Nat) : List (Nat × Nat) → Prop
  | [] => True
  | p :: r => (if p.2 = l0 then fol ops i es p.1 = true else True) ∧ dynL ops i es l0 r
def dynC (ops : Array Oper) (i : Nat) (o : Oper) (rds : List (Nat × Nat)) : Option Nat → Prop
  | none => True
  | some l0 => dynL ops i o.after.toList l0 rds
def addRd (i : Nat) (rds : List (Nat × Nat)) : Option Nat → List (Nat × Nat)
  | none => rds
  | some l => (i, l) :: rds
def WX (C : Cx) (kf : St → Prop) (ops : Array Oper) : List (Nat × Oper) → List (Nat × Nat) → St → Prop
  | [], _, s => kf s
  | (i, o) :: l, rds, s => match xr C ops o s.ρ s.h s.n with
    | none => False
    | some r => dynC ops i o rds (wrOf o s.ρ) ∧ r.pre ∧ WX C kf ops l (addRd i rds (rdOf o s.ρ)) (s.put o.dst r.v r.h r.n)

theorem WX.mono {C : Cx} {kf kf' : St → Prop} {ops : Array Oper} (hk : ∀ s, kf s → kf' s) : ∀ (l : List (Nat × Oper)) (rds : List (Nat × Nat)) (s : St), WX C kf ops l rds s → WX C kf' ops l rds s
  | [], _, s, h => hk s h
  | (i, o) :: l, rds, s, h => by
    simp only [WX] at h ⊢
    split at h
    · exact h.elim
    · exact ⟨h.1, h.2.1, WX.mono hk l _ _ h.2.2⟩
theorem dynL_mem {ops : Array Oper} {i : Nat} {es : List Edge} {l0 : Nat} : ∀ {rds : List (Nat × Nat)}, dynL ops i es l0 rds → ∀ p, p ∈ rds → p.2 = l0 → fol ops i es p.1 = true
  | q :: r, h, p, hp, e => by
    rcases List.mem_cons.1 hp with rfl | hp
    · have := h.1; rw [if_pos e] at this; exact this
    · exact dynL_mem h.2 p hp e
theorem dynL_of {ops : Array Oper} {i : Nat} {es : List Edge} {l0 : Nat} : ∀ {rds : List (Nat × Nat)}, (∀ p, p ∈ rds → p.2 = l0 → fol ops i es p.1 = true) → dynL ops i es l0 rds
  | [], _ => trivial
  | q :: r, h => ⟨by split
                     · rename_i e; exact h q (by simp) e
                     · trivial, dynL_of fun p hp => h p (by simp [hp])⟩
theorem dynC_sub {ops : Array Oper} {i : Nat} {o : Oper} {rds rds' : List (Nat × Nat)} {x : Option Nat} (hs : ∀ p, p ∈ rds' → p ∈ rds) (h : dynC ops i o rds x) : dynC ops i o rds' x := by
  cases x with
  | none => trivial
  | some l0 => exact dynL_of fun p hp => dynL_mem h p (hs p hp)
theorem addRd_sub {i : Nat} {rds rds' : List (Nat × Nat)} {x : Option Nat} (hs : ∀ p, p ∈ rds' → p ∈ rds) : ∀ p, p ∈ addRd i rds' x → p ∈ addRd i rds x := by
  cases x with
  | none => exact hs
  | some l => intro p hp; rcases List.mem_cons.1 hp with rfl | hp; exact List.mem_cons_self ..; exact List.mem_cons_of_mem _ (hs p hp)
theorem WX.sub {C : Cx} {kf : St → Prop} {ops : Array Oper} : ∀ (l : List (Nat × Oper)) (rds rds' : List (Nat × Nat)) (s : St), (∀ p, p ∈ rds' → p ∈ rds) → WX C kf ops l rds s → WX C kf ops l rds' s
  | [], _, _, _, _, h => h
  | (i, o) :: l, rds, rds', s, hs, h => by
    simp only [WX] at h ⊢
    split at h
    · exact h.elim
    · exact ⟨dynC_sub hs h.1, h.2.1, WX.sub l _ _ _ (addRd_sub hs) h.2.2⟩
theorem hasE_spec {i : Nat} : ∀ {es : List Edge}, hasE es i = true → ∃ e, e ∈ es ∧ Region.binds .any e = true ∧ e.on = i
  | e :: r, h => by
    simp only [hasE] at h
    split at h
    · rename_i hc
      simp only [Bool.and_eq_true, beq_iff_eq] at hc
      exact ⟨e, by simp, hc.1, hc.2⟩
    · obtain ⟨e', h1, h2⟩ := hasE_spec h
      exact ⟨e', by simp [h1], h2⟩

theorem xr_sound {C : Cx} {ops : Array Oper} {i : Nat} {rest : List Nat} {k : List Item} {s : St} {o : Oper} (ho : ops[i]? = some o) (hd : ∀ t, o.dst = some t → t < C.N) {r : R1} (hx : xr C ops o s.ρ s.h s.n = some r) (hp : r.pre)
    (h : Sem C (.inRegion ops rest :: k) (s.put o.dst r.v r.h r.n)) : Sem C (.inRegion ops (i :: rest) :: k) s := by
  unfold xr at hx
  cases hgd : o.guard with
  | none =>
    have hw : ∀ L a w, Rel L C.N s a w → Region.wanted o (yielded ops a.tmps) = true := fun L a w _ => by simp [Region.wanted, hgd]
    rw [hgd] at hx
    simp only at hx
    split at hx
    · rename_i fv args ts hop
      split at hx
      · cases hx
      · rename_i f as hc
        split at hx
        · rename_i p v hE
          cases hx
          exact Sem.call ho hop hd (ev s.ρ) (fun L a w hr => ⟨hr.ev fv, fun x _ => hr.ev x⟩) hw hc (xc_sound hE hp s.n _ h)
        · cases hx
    · rename_i op hop
      have hx' : step C.P (ev s.ρ) s.h s.n o.op = r := by injection hx
      exact Sem.op ho hd r (fun L a w hr => by rw [← hx']; exact step_sound hr.ev hr.good) hw hp (noDefer (by rw [← hx'] at hp; exact hp)) h
  | some jw =>
    obtain ⟨j, want⟩ := jw
    rw [hgd] at hx
    simp only at hx
    cases hgv : gv s.ρ ((ops[j]?).bind (·.dst)) want with
    | none => rw [hgv] at hx; cases hx
    | some g =>
      rw [hgv] at hx
      simp only at hx
      have hw : ∀ L a w, Rel L C.N s a w → Region.wanted o (yielded ops a.tmps) = g := fun L a w hr => gv_spec hr hgd hgv
      have hskip : xrF g s.h s.n = some r → Sem C (.inRegion ops (i :: rest) :: k) s := fun hx => by
        obtain ⟨hgf, rfl⟩ := xrF_some hx
        exact Sem.opSkip ho hd _ V_undef (fun L a w hr => by rw [hw L a w hr, hgf]) h
      split at hx
      · rename_i fv args ts hop
        split at hx
        · exact hskip hx
        · rename_i f as hc
          split at hx
          · rename_i p v hE
            cases hx
            cases hgb : g with
            | true =>
              obtain ⟨h3, h4, h5⟩ := hp hgb
              refine Sem.call ho hop hd (fun x => strip (ev s.ρ x)) (fun L a w hr => ⟨(hr.ev fv).strip h3, fun x hx => (hr.ev x).strip (optAll_mem h4 x hx)⟩) (fun L a w hr => by rw [hw L a w hr, hgb]) hc (xc_sound hE h5 s.n _ ?_)
              simp only [hgb] at h
              intro L a w hx hr
              exact h L a w hx ⟨hr.size, fun t => by
                have := hr.slots t
                cases hdd : o.dst with
                | none => rw [hdd] at this; exact this
                | some d =>
                  rw [hdd] at this
                  simp only [St.put, look_cons] at this ⊢
                  split at this
                  · rename_i e1; rw [if_pos e1]; exact .optT this
                  · rename_i e1; rw [if_neg e1]; exact this, by cases hdd : o.dst <;> (have := hr.good; rw [hdd] at this; exact this)⟩
            | false =>
              simp only [hgb] at h
              exact Sem.opSkip ho hd _ (fun L => .optF v) (fun L a w hr => by rw [hw L a w hr, hgb]) h
          · exact hskip hx
      · split at hx
        · rename_i hq
          obtain ⟨q1, q2⟩ := quiet_stepO (P := C.P) (ρ := s.ρ) (h := s.h) (n := s.n) hq
          cases hx
          cases hgb : g with
          | true =>
            simp only [hgb] at h
            refine Sem.op ho hd ⟨(stepO C.P s.ρ s.h s.n o.op).pre, .opt true (stepO C.P s.ρ s.h s.n o.op).v, s.h, s.n⟩ (fun L a w hr => ?_) (fun L a w hr => by rw [hw L a w hr, hgb]) (hp hgb) (noDeferO (hp hgb)) h
            intro hp
            obtain ⟨nx, x, w', L', p1, p2, p3, p4, p5, p6⟩ := stepO_sound (P := C.P) (o := o) hr hp
            exact ⟨nx, x, w', L', p1, p2, p3, p4, .optT p5, by rw [q1, q2] at p6; exact p6⟩
          | false =>
            simp only [hgb] at h
            exact Sem.opSkip ho hd _ (fun L => .optF _) (fun L a w hr => by rw [hw L a w hr, hgb]) h
        · cases hx

/-! ### States that tell the same -/
structure Same (s s' : St) : Prop where
  look : ∀ t, look s.ρ t = look s'.ρ t
  h : s.h = s'.h
  n : s.n = s'.n
theorem Same.refl (s : St) : Same s s := ⟨fun _ => rfl, rfl, rfl⟩
theorem Same.symm {s s' : St} (h : Same s s') : Same s' s := ⟨fun t => (h.look t).symm, h.h.symm, h.n.symm⟩
theorem Same.trans {a b c : St} (h : Same a b) (h' : Same b c) : Same a c := ⟨fun t => (h.look t).trans (h'.look t), h.h.trans h'.h, h.n.trans h'.n⟩
theorem Same.put {s s' : St} (hs : Same s s') (d : Option Nat) (v : AV) (h : AHeap) (n : Nat) : Same (s.put d v h n) (s'.put d v h n) := by
  cases d with
  | none => exact ⟨hs.look, rfl, rfl⟩
  | some t => exact ⟨fun k => by simp only [St.put, look_cons]; rw [hs.look k], rfl, rfl⟩
theorem Sem.same {C : Cx} {k : List Item} {s s' : St} (hs : Same s s') (h : Sem C k s) : Sem C k s' := fun L a w hx hr =>
  h L a w hx ⟨hr.size, fun t => by rw [hs.look t]; exact hr.slots t, by rw [hs.h, hs.n]; exact hr.good⟩

theorem ev_congr {ρ ρ' : List (Nat × AV)} {l : List Operand} (h : ∀ t, t ∈ tmpsOf l → look ρ t = look ρ' t) : ∀ x, x ∈ l → ev ρ x = ev ρ' x := fun x hx => by
  cases x with
  | tmp t => exact h t (mem_tmpsOf hx)
  | const v => rfl
  | global g => rfl
  | func f => rfl
theorem optAll_congr {ρ ρ' : List (Nat × AV)} : ∀ {l : List Operand}, (∀ x, x ∈ l → ev ρ x = ev ρ' x) → optAll ρ l = optAll ρ' l
  | [], _ => rfl
  | x :: r, h => by simp only [optAll]; rw [h x (by simp), optAll_congr fun y hy => h y (by simp [hy])]
theorem stepO_congr {P : Program} {ρ ρ' : List (Nat × AV)} {h : AHeap} {n : Nat} {op : Op} (he : ∀ x, x ∈ op.operands.toList → ev ρ x = ev ρ' x) : stepO P ρ h n op = stepO P ρ' h n op := by
  unfold stepO
  split
  · exact step_congr he
  · rw [optAll_congr he, step_congr (e := fun x => strip (ev ρ x)) (e' := fun x => strip (ev ρ' x)) fun x hx => by rw [he x hx]]
theorem xr_congr {C : Cx} {ops : Array Oper} {o : Oper} {ρ ρ' : List (Nat × AV)} {h : AHeap} {n : Nat} (hr : ∀ t, t ∈ readsOf ops o → look ρ t = look ρ' t) : xr C ops o ρ h n = xr C ops o ρ' h n := by
  have he := ev_congr (ρ := ρ) (ρ' := ρ') (l := o.op.operands.toList) fun t ht => hr t (by simp [readsOf, ht])
  have hcall : ∀ fv args ts, o.op = .call ⟨.value fv, args, ts⟩ → ev ρ fv = ev ρ' fv ∧ ∀ x, x ∈ args.toList → ev ρ x = ev ρ' x := fun fv args ts ho => by
    rw [ho] at he
    exact ⟨he fv (by simp [Op.operands, Call.operands]), fun x hx => he x (by simp [Op.operands, Call.operands]; right; simpa using hx)⟩
  unfold xr
  cases hgd : o.guard with
  | none =>
    simp only
    split
    · rename_i fv args ts hop
      obtain ⟨h1, h2⟩ := hcall fv args ts hop
      rw [h1, List.map_congr_left h2]
    · exact congrArg some (step_congr he)
  | some jw =>
    obtain ⟨j, want⟩ := jw
    simp only
    have hg : gv ρ ((ops[j]?).bind (·.dst)) want = gv ρ' ((ops[j]?).bind (·.dst)) want := by
      cases hd : (ops[j]?).bind (·.dst) with
      | none => rfl
      | some t => simp only [gv]; rw [hr t (by simp [readsOf, hgd, hd])]
    rw [hg]
    split
    · rfl
    · split
      · rename_i fv args ts hop
        obtain ⟨h1, h2⟩ := hcall fv args ts hop
        rw [h1, optAll_congr h2, List.map_congr_left (f := fun x => strip (ev ρ x)) (g := fun x => strip (ev ρ' x)) fun x hx => by rw [h2 x hx]]
      · rw [stepO_congr he]

/-! ### Which operations may change places -/
structure SameBut (r r' : R1) (h h' : AHeap) (n n' : Nat) : Prop where
  pre : r.pre = r'.pre
  v : r.v = r'.v
  h1 : r.h = h
  h2 : r'.h = h'
  n1 : r.n = n
  n2 : r'.n = n'
theorem SameBut.bad (h h' : AHeap) (n n' : Nat) : SameBut (AM.bad h n) (AM.bad h' n') h h' n n' := ⟨rfl, rfl, rfl, rfl, rfl, rfl⟩

theorem step_cls0 {P : Program} {e : Operand → AV} {op : Op} (hc : cls op = 0) (h h' : AHeap) (n n' : Nat) : SameBut (step P e h n op) (step P e h' n' op) h h' n n' := by
  cases op <;> simp only [cls] at hc <;> first
    | exact ⟨rfl, rfl, rfl, rfl, rfl, rfl⟩
    | (cases hc; done)
    | skip
  case build t parts => simp only [step, sBuild]; repeat' split
                        all_goals exact ⟨rfl, rfl, rfl, rfl, rfl, rfl⟩
  case nilCheck x => simp only [step, sNil]; repeat' split
                     all_goals exact ⟨rfl, rfl, rfl, rfl, rfl, rfl⟩
  case binOp op t x y yt => simp only [step, sBin2, sBin]; repeat' split
                            all_goals exact ⟨rfl, rfl, rfl, rfl, rfl, rfl⟩
  case makeMap t r => cases r <;> simp only at hc <;> cases hc
  case unOp op t x => simp only [step, sUn]; repeat' split
                      all_goals exact ⟨rfl, rfl, rfl, rfl, rfl, rfl⟩
  case convert s t x => simp only [step, sConv]; repeat' split
                        all_goals exact ⟨rfl, rfl, rfl, rfl, rfl, rfl⟩
  case fieldAddr t x f => simp only [step, sFieldAddr]; repeat' split
                          all_goals exact ⟨rfl, rfl, rfl, rfl, rfl, rfl⟩
  case field t x f => simp only [step, sField]; repeat' split
                      all_goals exact ⟨rfl, rfl, rfl, rfl, rfl, rfl⟩
  case extract x f => simp only [step, sExtract]; repeat' split
                      all_goals exact ⟨rfl, rfl, rfl, rfl, rfl, rfl⟩
  case call c =>
    obtain ⟨ce, args, ts⟩ := c
    cases ce with
    | builtin b =>
      cases b <;> simp only at hc <;> first
        | (cases hc; done)
        | (simp only [step, sBuiltin, sMM]; repeat' split)
      all_goals first | exact ⟨rfl, rfl, rfl, rfl, rfl, rfl⟩ | contradiction
    | value f => cases hc
    | invoke f m => cases hc

def Mono (r r' : R1) (h' : AHeap) (n' : Nat) : Prop := r.pre → r'.pre ∧ r'.v = r.v ∧ r'.h = h' ∧ r'.n = n'
theorem sLoad_mono {T : TI} {x : AV} {h h' : AHeap} (n n' : Nat) (hh : ∀ l ob, h l = some ob → h' l = some ob) : Mono (sLoad T x h n) (sLoad T x h' n') h' n' := by
  intro hp
  cases x <;> try exact hp.elim
  · rename_i cs
    simp only [sLoad] at hp ⊢
    split
    · rename_i hc; rw [if_pos hc] at hp; exact ⟨hp, rfl, rfl, rfl⟩
    · rename_i hc
      rw [if_neg hc] at hp
      cases cs with
      | nil => exact hp.elim
      | cons c r => exact ⟨hp, rfl, rfl, rfl⟩
  · rename_i l v i off
    simp only [sLoad] at hp ⊢
    cases hl : h l with
    | none => rw [hl] at hp; exact hp.elim
    | some ob =>
      rw [hl] at hp
      rw [hh l ob hl]
      cases ob with
      | cells v' sz rows =>
        simp only at hp ⊢
        split
        · rename_i hc; rw [if_pos hc] at hp; exact ⟨hp, rfl, rfl, rfl⟩
        · rename_i hc; rw [if_neg hc] at hp; exact ⟨hp, rfl, rfl, rfl⟩
      | map => exact hp.elim
      | itr => exact hp.elim
      | loop => exact hp.elim
theorem sIdxAddr_mono {P : Program} {T : TI} {x i : AV} {h h' : AHeap} (n n' : Nat) (hh : ∀ l ob, h l = some ob → h' l = some ob) : Mono (sIdxAddr P T x i h n) (sIdxAddr P T x i h' n') h' n' := by
  intro hp
  unfold sIdxAddr at hp ⊢
  generalize T.k = tk at hp ⊢
  cases tk <;> cases i <;> try exact hp.elim
  all_goals (rename_i d; cases d <;> try exact hp.elim)
  all_goals (cases x <;> first | exact hp.elim | exact ⟨hp, rfl, rfl, rfl⟩ | skip)
  · rename_i d
    cases d <;> first | exact hp.elim | exact ⟨hp, rfl, rfl, rfl⟩
  · rename_i l v k len
    simp only at hp ⊢
    cases hl : h l with
    | none => rw [hl] at hp; exact hp.elim
    | some ob =>
      rw [hl] at hp
      rw [hh l ob hl]
      cases ob with
      | cells v' sz rows => exact ⟨hp, rfl, rfl, rfl⟩
      | map => exact hp.elim
      | itr => exact hp.elim
      | loop => exact hp.elim
theorem sSlice_mono {P : Program} {T : TI} {x : AV} {lo hi mx : Option AV} {h h' : AHeap} (n n' : Nat) (hh : ∀ l ob, h l = some ob → h' l = some ob) : Mono (sSlice P T x lo hi mx h n) (sSlice P T x lo hi mx h' n') h' n' := by
  intro hp
  unfold sSlice at hp ⊢
  generalize T.k = tk at hp ⊢
  cases tk <;> cases mx <;> try exact hp.elim
  cases x <;> try exact hp.elim
  · rename_i d
    cases d <;> try exact hp.elim
    rename_i xs
    simp only at hp ⊢
    cases h1 : loOf lo <;> cases h2 : hiOf xs.length hi <;> rw [h1, h2] at hp <;> first | exact hp.elim | exact ⟨hp, rfl, rfl, rfl⟩
  · rename_i l' v i len
    simp only at hp ⊢
    cases h1 : loOf lo <;> cases h2 : hiOf len hi <;> rw [h1, h2] at hp <;> try exact hp.elim
    obtain ⟨q1, q2, q3, q4⟩ := hp
    exact ⟨⟨q1, q2, q3, q4.imp id fun ⟨sz, rows, q5, q6⟩ => ⟨sz, rows, hh _ _ q5, q6⟩⟩, rfl, rfl, rfl⟩
theorem sLen_mono {x : AV} {h h' : AHeap} (n n' : Nat) (hh : ∀ l ob, h l = some ob → h' l = some ob) : Mono (sLen x h n) (sLen x h' n') h' n' := by
  intro hp
  cases x <;> first | exact hp.elim | exact ⟨hp, rfl, rfl, rfl⟩ | skip
  · rename_i d
    cases d <;> first | exact hp.elim | exact ⟨hp, rfl, rfl, rfl⟩
  · rename_i l
    simp only [sLen] at hp ⊢
    cases hl : h l with
    | none => rw [hl] at hp; exact hp.elim
    | some ob =>
      rw [hl] at hp
      rw [hh l ob hl]
      cases ob with
      | cells v' sz rows => exact hp.elim
      | map => exact ⟨hp, rfl, rfl, rfl⟩
      | itr => exact hp.elim
      | loop => exact hp.elim
theorem sLookup_mono {P : Program} {t : TypeId} {x k : AV} {ok : Bool} {h h' : AHeap} (n n' : Nat) (hh : ∀ l ob, h l = some ob → h' l = some ob) : Mono (sLookup P t x k ok h n) (sLookup P t x k ok h' n') h' n' := by
  intro hp
  unfold sLookup at hp ⊢
  generalize (tyOf P t).k = tk at hp ⊢
  generalize keyAV k = kk at hp ⊢
  cases tk <;> cases x <;> cases kk <;> try exact hp.elim
  rename_i kt el l gk
  obtain ⟨g, ks⟩ := gk
  simp only at hp ⊢
  cases hl : h l with
  | none => rw [hl] at hp; exact hp.elim
  | some ob =>
    rw [hl] at hp
    rw [hh l ob hl]
    generalize zvOf P el = z at hp ⊢
    cases ob <;> cases z <;> first | exact hp.elim | exact ⟨hp, rfl, rfl, rfl⟩
theorem withPre_mono {p : Prop} {r r' : R1} {h' : AHeap} {n' : Nat} (hm : Mono r r' h' n') : Mono (withPre p r) (withPre p r') h' n' := fun hp => by
  obtain ⟨h1, h2⟩ := hm hp.2
  exact ⟨⟨hp.1, h1⟩, h2⟩
theorem step_cls1 {P : Program} {e : Operand → AV} {op : Op} (hc : cls op = 1) {h h' : AHeap} (n n' : Nat) (hh : ∀ l ob, h l = some ob → h' l = some ob) : Mono (step P e h n op) (step P e h' n' op) h' n' := by
  cases op <;> simp only [cls] at hc <;> first
    | (cases hc; done)
    | skip
  case load t x => exact sLoad_mono n n' hh
  case lookup t x k ok => exact sLookup_mono n n' hh
  case makeMap t r => cases r <;> simp only at hc <;> cases hc
  case indexAddr t x i => exact sIdxAddr_mono n n' hh
  case slice t x lo hi mx => exact withPre_mono (sSlice_mono n n' hh)
  case call c =>
    obtain ⟨ce, args, ts⟩ := c
    cases ce with
    | builtin b =>
      cases b <;> simp only at hc <;> first
        | (cases hc; done)
        | skip
      simp only [step, sBuiltin]
      split <;> first
        | contradiction
        | exact withPre_mono (sLen_mono n n' hh)
        | exact fun hp => hp.elim
    | value f => exact fun hp => hp.elim
    | invoke f m => cases hc

/-- New objects: what is made hangs on the operands alone. -/
theorem step_cls2 {P : Program} {e : Operand → AV} {op : Op} (hc : cls op = 2) {h : AHeap} {n : Nat} (hp : (step P e h n op).pre) : ∃ ob, (step P e h n op).h = upd h n (some ob) ∧ (step P e h n op).n = n + 1 := by
  cases op <;> simp only [cls] at hc <;> first
    | (cases hc; done)
    | skip
  case alloc t =>
    simp only [step, sAlloc] at hp ⊢
    split at hp
    · exact ⟨_, rfl, rfl⟩
    · exact hp.elim
  case box t x => exact ⟨_, rfl, rfl⟩
  case buildSlice t len parts =>
    simp only [step, sBuildSlice] at hp ⊢
    split at hp <;> try exact hp.elim
    split at hp <;> try exact hp.elim
    split at hp <;> try exact hp.elim
    exact ⟨_, rfl, rfl⟩
  case makeSlice t l c =>
    simp only [step, sMakeSlice] at hp ⊢
    split at hp <;> try exact hp.elim
    split at hp <;> try exact hp.elim
    exact ⟨_, rfl, rfl⟩
  case makeMap t r =>
    cases r with
    | some r => simp only at hc; cases hc
    | none =>
      simp only [step, sMakeMap] at hp ⊢
      split at hp <;> try exact hp.elim
      split at hp <;> try exact hp.elim
      exact ⟨_, rfl, rfl⟩
  case call c =>
    obtain ⟨ce, args, ts⟩ := c
    cases ce with
    | builtin b => cases b <;> simp only at hc <;> cases hc
    | value f => cases hc
    | invoke f m => cases hc

def HN (h : AHeap) (n : Nat) : Prop := ∀ l, n ≤ l → h l = none
theorem HN.upd {h : AHeap} {n l : Nat} {o : Option AOb} (hh : HN h n) (hl : l < n) : HN (AM.upd h l o) n := fun k hk => by rw [upd_ne _ _ (by omega)]; exact hh k hk
theorem HN.updn {h : AHeap} {n : Nat} {o : Option AOb} (hh : HN h n) : HN (AM.upd h n o) (n + 1) := fun k hk => by rw [upd_ne _ _ (by omega)]; exact hh k (by omega)
theorem HN.lt {h : AHeap} {n l : Nat} {ob : AOb} (hh : HN h n) (hl : h l = some ob) : l < n := by
  rcases Nat.lt_or_ge l n with h' | h'
  · exact h'
  · rw [hh l h'] at hl; cases hl
theorem step_HN {P : Program} {e : Operand → AV} {h : AHeap} {n : Nat} {op : Op} (hh : HN h n) (hp : (step P e h n op).pre) : HN (step P e h n op).h (step P e h n op).n := by
  by_cases hq : isQuiet op = true
  · obtain ⟨h1, h2⟩ := quiet_step (P := P) (e := e) (h := h) (n := n) hq
    rw [h1, h2]; exact hh
  by_cases hc : cls op = 2
  · obtain ⟨ob, h1, h2⟩ := step_cls2 hc hp
    rw [h1, h2]; exact hh.updn
  cases op <;> simp only [isQuiet, cls] at hq hc <;> first
    | exact absurd trivial hq
    | exact absurd trivial hc
    | exact hp.elim
    | skip
  case store t x y =>
    simp only [step, sStore] at hp ⊢
    split at hp <;> try exact hp.elim
    split at hp <;> try exact hp.elim
    rename_i hl
    exact hh.upd (hh.lt hl)
  case makeMap t r => cases r with
    | none => exact absurd rfl hc
    | some r => exact hp.elim
  case mapUpdate t x k v =>
    simp only [step, sMapUpdate] at hp ⊢
    split at hp <;> try exact hp.elim
    split at hp <;> try exact hp.elim
    rename_i hl
    exact hh.upd (hh.lt hl)
  case call c =>
    obtain ⟨ce, args, ts⟩ := c
    cases ce with
    | builtin b =>
      simp only [step, sBuiltin] at hp ⊢
      split at hp
      · exact absurd rfl hq
      · exact absurd rfl hq
      · exact absurd rfl hq
      · simp only [sAppend] at hp ⊢
        split at hp <;> try exact hp.elim
        split at hp <;> try exact hp.elim
        · exact hh.updn
        · split at hp <;> try exact hp.elim
          rename_i hl
          exact hh.upd (hh.lt hl)
      · exact hp.elim
    | value f => exact hp.elim
    | invoke f m => exact hp.elim

theorem stepO_cls0 {P : Program} {ρ : List (Nat × AV)} {op : Op} (hc : cls op = 0) (h h' : AHeap) (n n' : Nat) : SameBut (stepO P ρ h n op) (stepO P ρ h' n' op) h h' n n' := by
  unfold stepO
  split
  · exact step_cls0 hc h h' n n'
  · obtain ⟨q1, q2, q3, q4, q5, q6⟩ := step_cls0 (P := P) (e := fun x => strip (ev ρ x)) hc h h' n n'
    exact ⟨by simp only [withPre]; rw [q1], q2, q3, q4, q5, q6⟩
theorem notCall {op : Op} (hc : cls op = 0 ∨ cls op = 2) {fv : Operand} {args : Array Operand} {ts : Array TypeId} (ho : op = .call ⟨.value fv, args, ts⟩) : False := by
  subst ho; rcases hc with hc | hc <;> simp [cls] at hc
theorem xr_cls0 {C : Cx} {ops : Array Oper} {o : Oper} {ρ : List (Nat × AV)} {h : AHeap} {n : Nat} {r : R1} (hc : cls o.op = 0) (hx : xr C ops o ρ h n = some r) (h' : AHeap) (n' : Nat) : ∃ r', xr C ops o ρ h' n' = some r' ∧ SameBut r r' h h' n n' := by
  unfold xr at hx ⊢
  cases hgd : o.guard with
  | none =>
    rw [hgd] at hx
    simp only at hx ⊢
    split at hx
    · rename_i hop; exact (notCall (.inl hc) hop).elim
    · cases hx
      exact ⟨_, rfl, step_cls0 hc h h' n n'⟩
  | some jw =>
    obtain ⟨j, want⟩ := jw
    rw [hgd] at hx
    simp only at hx ⊢
    split at hx
    · cases hx
    · rename_i g hg
      split at hx
      · rename_i hop; exact (notCall (.inl hc) hop).elim
      · split at hx
        · rename_i hq
          cases hx
          obtain ⟨q1, q2, q3, q4, q5, q6⟩ := stepO_cls0 (P := C.P) (ρ := ρ) hc h h' n n'
          refine ⟨_, by rw [if_pos hq], ?_⟩
          exact ⟨by simp only; rw [q1], by simp only; rw [q2], rfl, rfl, rfl, rfl⟩
        · cases hx
theorem quiet_cls1 {op : Op} (hc : cls op = 1) : (∃ fv args ts, op = .call ⟨.value fv, args, ts⟩) ∨ isQuiet op = true := by
  cases op <;> simp only [cls] at hc <;> first
    | (cases hc; done)
    | exact .inr rfl
    | skip
  case makeMap t r => cases r <;> simp only at hc <;> cases hc
  case call c =>
    obtain ⟨ce, args, ts⟩ := c
    cases ce with
    | builtin b => cases b <;> simp only at hc <;> first | (cases hc; done) | exact .inr rfl
    | value f => exact .inl ⟨_, _, _, rfl⟩
    | invoke f m => cases hc
theorem xr_cls1 {C : Cx} {ops : Array Oper} {o : Oper} {ρ : List (Nat × AV)} {h : AHeap} {n : Nat} {r : R1} (hc : cls o.op = 1) (hx : xr C ops o ρ h n = some r) : r.h = h ∧ r.n = n := by
  unfold xr at hx
  split at hx
  · split at hx
    · split at hx
      · cases hx
      · split at hx
        · cases hx; exact ⟨rfl, rfl⟩
        · cases hx
    · rename_i hno
      cases hx
      rcases quiet_cls1 hc with ⟨fv, args, ts, hq⟩ | hq
      · exact absurd hq (hno fv args ts)
      · exact quiet_step hq
  · split at hx
    · cases hx
    · split at hx
      · split at hx
        · obtain ⟨_, rfl⟩ := xrF_some hx; exact ⟨rfl, rfl⟩
        · split at hx
          · cases hx; exact ⟨rfl, rfl⟩
          · obtain ⟨_, rfl⟩ := xrF_some hx; exact ⟨rfl, rfl⟩
      · split at hx
        · cases hx; exact ⟨rfl, rfl⟩
        · cases hx
theorem xr_mono1 {C : Cx} {ops : Array Oper} {o : Oper} {ρ : List (Nat × AV)} {h h' : AHeap} {n : Nat} {r : R1} (hc : cls o.op = 1) (hgd : o.guard = none) (hx : xr C ops o ρ h n = some r) (hp : r.pre) (n' : Nat) (hh : ∀ l ob, h l = some ob → h' l = some ob) :
    ∃ r', xr C ops o ρ h' n' = some r' ∧ r'.pre ∧ r'.v = r.v ∧ r'.h = h' ∧ r'.n = n' := by
  unfold xr at hx ⊢
  rw [hgd] at hx ⊢
  simp only at hx ⊢
  split at hx
  · split at hx
    · cases hx
    · rename_i f as hcT
      split at hx
      · rename_i p v hE
        cases hx
        rw [xc_mono hh hE]
        exact ⟨_, rfl, hp, rfl, rfl, rfl⟩
      · cases hx
  · cases hx
    obtain ⟨q1, q2, q3, q4⟩ := step_cls1 (P := C.P) (e := ev ρ) hc n n' hh hp
    exact ⟨_, rfl, q1, q2, q3, q4⟩
theorem xr_cls2 {C : Cx} {ops : Array Oper} {o : Oper} {ρ : List (Nat × AV)} {h : AHeap} {n : Nat} {r : R1} (hc : cls o.op = 2) (hx : xr C ops o ρ h n = some r) (hp : r.pre) : ∃ ob, r.h = upd h n (some ob) ∧ r.n = n + 1 := by
  unfold xr at hx
  split at hx
  · split at hx
    · rename_i hop; exact (notCall (.inr hc) hop).elim
    · cases hx; exact step_cls2 hc hp
  · split at hx
    · cases hx
    · split at hx
      · rename_i hop; exact (notCall (.inr hc) hop).elim
      · split at hx
        · rename_i hq
          exfalso
          revert hc hq
          cases o.op <;> simp only [cls, isQuiet] <;> first | (intro h; cases h; done) | (intro _ h; cases h; done) | skip
          rename_i c
          obtain ⟨ce, args, ts⟩ := c
          cases ce with
          | builtin b => cases b <;> intro h <;> cases h
          | value f => intro h; cases h
          | invoke f m => intro h; cases h
        · cases hx
theorem xr_HN {C : Cx} {ops : Array Oper} {o : Oper} {ρ : List (Nat × AV)} {h : AHeap} {n : Nat} {r : R1} (hh : HN h n) (hx : xr C ops o ρ h n = some r) (hp : r.pre) : HN r.h r.n := by
  unfold xr at hx
  split at hx
  · split at hx
    · split at hx
      · cases hx
      · split at hx
        · cases hx; exact hh
        · cases hx
    · cases hx; exact step_HN hh hp
  · split at hx
    · cases hx
    · split at hx
      · split at hx
        · obtain ⟨_, rfl⟩ := xrF_some hx; exact hh
        · split at hx
          · cases hx; exact hh
          · obtain ⟨_, rfl⟩ := xrF_some hx; exact hh
      · split at hx
        · cases hx; exact hh
        · cases hx

/-- A reader of one object, in a memory that has that object alike. -/
theorem sLoad_at {T : TI} {x : AV} {h h' : AHeap} (n n' : Nat) (hh : ∀ l, nameOf x = some l → h' l = h l) : Mono (sLoad T x h n) (sLoad T x h' n') h' n' := by
  intro hp
  cases x <;> try exact hp.elim
  · rename_i cs
    simp only [sLoad] at hp ⊢
    split
    · rename_i hc; rw [if_pos hc] at hp; exact ⟨hp, rfl, rfl, rfl⟩
    · rename_i hc
      rw [if_neg hc] at hp
      cases cs with
      | nil => exact hp.elim
      | cons c r => exact ⟨hp, rfl, rfl, rfl⟩
  · rename_i l v i off
    simp only [sLoad] at hp ⊢
    rw [hh l rfl]
    cases hl : h l with
    | none => rw [hl] at hp; exact hp.elim
    | some ob =>
      rw [hl] at hp
      cases ob with
      | cells v' sz rows =>
        simp only at hp ⊢
        split
        · rename_i hc; rw [if_pos hc] at hp; exact ⟨hp, rfl, rfl, rfl⟩
        · rename_i hc; rw [if_neg hc] at hp; exact ⟨hp, rfl, rfl, rfl⟩
      | map => exact hp.elim
      | itr => exact hp.elim
      | loop => exact hp.elim
theorem sLen_at {x : AV} {h h' : AHeap} (n n' : Nat) (hh : ∀ l, nameOf x = some l → h' l = h l) : Mono (sLen x h n) (sLen x h' n') h' n' := by
  intro hp
  cases x <;> first | exact hp.elim | exact ⟨hp, rfl, rfl, rfl⟩ | skip
  · rename_i d
    cases d <;> first | exact hp.elim | exact ⟨hp, rfl, rfl, rfl⟩
  · rename_i l
    simp only [sLen] at hp ⊢
    rw [hh l rfl]
    cases hl : h l with
    | none => rw [hl] at hp; exact hp.elim
    | some ob =>
      rw [hl] at hp
      cases ob with
      | cells v' sz rows => exact hp.elim
      | map => exact ⟨hp, rfl, rfl, rfl⟩
      | itr => exact hp.elim
      | loop => exact hp.elim
theorem sub_at {h h' : AHeap} {x : AV} (hh : ∀ l, nameOf x = some l → ∀ ob, h l = some ob → h' l = some ob) : ∃ g : AHeap, (∀ l ob, g l = some ob → h' l = some ob) ∧ (∀ l, nameOf x = some l → g l = h l) := by
  classical
  refine ⟨fun l => if nameOf x = some l then h l else none, fun l ob hg => ?_, fun l hl => by simp only; rw [if_pos hl]⟩
  simp only at hg
  split at hg
  · rename_i e; exact hh l e ob hg
  · cases hg
theorem Mono.trans {r r' r'' : R1} {h' h'' : AHeap} {n' n'' : Nat} (h1 : Mono r r' h' n') (h2 : Mono r' r'' h'' n'') : Mono r r'' h'' n'' := fun hp => by
  obtain ⟨a, b, c, d⟩ := h1 hp
  obtain ⟨a', b', c', d'⟩ := h2 a
  exact ⟨a', by rw [b', b], c', d'⟩
theorem read_at {P : Program} {e : Operand → AV} {op : Op} {x : Operand} (hm : mainRd op = some x) (hc : cls op = 1) {h h' : AHeap} (n n' : Nat) (hh : ∀ l, nameOf (e x) = some l → ∀ ob, h l = some ob → h' l = some ob) : Mono (step P e h n op) (step P e h' n' op) h' n' := by
  obtain ⟨g, g1, g2⟩ := sub_at hh
  refine Mono.trans (r' := step P e g n' op) (h' := g) (n' := n') ?_ (step_cls1 hc n' n' g1)
  have g2 : ∀ l, nameOf (e x) = some l → g l = h l := g2
  cases op <;> simp only [mainRd] at hm <;> try (cases hm; done)
  case load t y => cases hm; exact sLoad_at n n' g2
  case indexAddr t y i =>
    cases hm
    intro hp
    simp only [step, sIdxAddr] at hp ⊢
    generalize (tyOf P t).k = tk at hp ⊢
    generalize e x = ey at hp g2 ⊢
    generalize e i = ei at hp ⊢
    cases tk <;> cases ei <;> try exact hp.elim
    all_goals (rename_i d; cases d <;> try exact hp.elim)
    all_goals (cases ey <;> first | exact hp.elim | exact ⟨hp, rfl, rfl, rfl⟩ | skip)
    · rename_i d
      cases d <;> first | exact hp.elim | exact ⟨hp, rfl, rfl, rfl⟩
    · rename_i l v k len
      simp only at hp ⊢
      rw [g2 l rfl]
      cases hl : h l with
      | none => rw [hl] at hp; exact hp.elim
      | some ob =>
        rw [hl] at hp
        cases ob with
        | cells v' sz rows => exact ⟨hp, rfl, rfl, rfl⟩
        | map => exact hp.elim
        | itr => exact hp.elim
        | loop => exact hp.elim
  case slice t y lo hi mx =>
    cases hm
    refine withPre_mono fun hp => ?_
    simp only [sSlice] at hp ⊢
    generalize (tyOf P t).k = tk at hp ⊢
    generalize e x = ey at hp g2 ⊢
    generalize lo.map e = lo at hp ⊢
    generalize hi.map e = hi at hp ⊢
    generalize mx.map e = mx at hp ⊢
    cases tk <;> cases mx <;> try exact hp.elim
    cases ey <;> try exact hp.elim
    · rename_i d
      cases d <;> try exact hp.elim
      rename_i xs
      simp only at hp ⊢
      cases h1 : loOf lo <;> cases h2 : hiOf xs.length hi <;> rw [h1, h2] at hp <;> first | exact hp.elim | exact ⟨hp, rfl, rfl, rfl⟩
    · rename_i l' v i len
      simp only at hp ⊢
      cases h1 : loOf lo <;> cases h2 : hiOf len hi <;> rw [h1, h2] at hp <;> try exact hp.elim
      obtain ⟨q1, q2, q3, q4⟩ := hp
      exact ⟨⟨q1, q2, q3, q4.imp id fun ⟨sz, rows, q5, q6⟩ => ⟨sz, rows, by rw [g2 _ rfl]; exact q5, q6⟩⟩, rfl, rfl, rfl⟩
  case lookup t y k ok =>
    cases hm
    intro hp
    simp only [step, sLookup] at hp ⊢
    generalize (tyOf P t).k = tk at hp ⊢
    generalize e x = ey at hp g2 ⊢
    generalize keyAV (e k) = kk at hp ⊢
    cases tk <;> cases ey <;> cases kk <;> try exact hp.elim
    rename_i kt el l gk
    obtain ⟨gg, ks⟩ := gk
    simp only at hp ⊢
    rw [g2 l rfl]
    cases hl : h l with
    | none => rw [hl] at hp; exact hp.elim
    | some ob =>
      rw [hl] at hp
      generalize zvOf P el = z at hp ⊢
      cases ob <;> cases z <;> first | exact hp.elim | exact ⟨hp, rfl, rfl, rfl⟩
  case call c =>
    obtain ⟨ce, args, ts⟩ := c
    cases ce with
    | builtin b =>
      cases b <;> simp only at hm <;> try (cases hm; done)
      obtain ⟨args⟩ := args
      obtain ⟨ts⟩ := ts
      simp only [step, sBuiltin]
      split <;> first
        | exact fun hp => hp.elim
        | contradiction
        | skip
      simp at hm
      subst hm
      exact withPre_mono (sLen_at n n' g2)
    | value f => cases hm
    | invoke f m => cases hm
/-- What a writer changes: the object it writes through, and new ones. -/
theorem write_at {P : Program} {e : Operand → AV} {op : Op} {x : Operand} (hm : mainWr op = some x) {h : AHeap} {n : Nat} (hp : (step P e h n op).pre) {l : Nat} (hl : l < n) (hne : nameOf (e x) ≠ some l) : (step P e h n op).h l = h l := by
  cases op <;> simp only [mainWr] at hm <;> try (cases hm; done)
  case store t y z =>
    cases hm
    simp only [step, sStore] at hp ⊢
    split at hp <;> try exact hp.elim
    rename_i l' v i off hq
    rw [hq] at hne
    split at hp <;> try exact hp.elim
    rename_i hl'
    simp only [hl']
    exact upd_ne _ _ (fun e => hne (by rw [e]; rfl))
  case mapUpdate t y k v =>
    cases hm
    simp only [step, sMapUpdate] at hp ⊢
    split at hp <;> try exact hp.elim
    rename_i l' g ks hq1 hq hq2
    rw [hq] at hne
    split at hp <;> try exact hp.elim
    rename_i hl'
    simp only [hl']
    exact upd_ne _ _ (fun e => hne (by rw [e]; rfl))
  case call c =>
    obtain ⟨ce, args, ts⟩ := c
    cases ce with
    | builtin b =>
      cases b <;> simp only at hm <;> try (cases hm; done)
      obtain ⟨args⟩ := args
      obtain ⟨ts⟩ := ts
      simp only [step, sBuiltin] at hp ⊢
      split at hp <;> try exact hp.elim
      all_goals try contradiction
      simp at hm
      subst hm
      simp only [sAppend] at hp ⊢
      split at hp <;> try exact hp.elim
      split at hp <;> try exact hp.elim
      · exact upd_ne _ _ (by omega)
      · rename_i hq
        rw [hq] at hne
        split at hp <;> try exact hp.elim
        rename_i hl'
        simp only [hl']
        exact upd_ne _ _ (fun e => hne (by rw [e]; rfl))
    | value f => cases hm
    | invoke f m => cases hm
theorem put_reads {ops : Array Oper} {s : St} {o : Oper} {d : Option Nat} {v : AV} {h : AHeap} {n : Nat} (hd : ∀ t, d = some t → t ∉ readsOf ops o) : ∀ t, t ∈ readsOf ops o → look (s.put d v h n).ρ t = look s.ρ t := fun t ht => by
  cases d with
  | none => rfl
  | some k => simp only [St.put, look_cons]; rw [if_neg (fun e => hd k rfl (by rw [← e]; exact ht))]
theorem same_swap {s : St} {d1 d2 : Option Nat} (hd : ∀ t, d1 = some t → d2 ≠ some t) (v1 v2 : AV) (h1 h2 h1' h2' h : AHeap) (n1 n2 n1' n2' n : Nat) : Same ((s.put d1 v1 h1 n1).put d2 v2 h n) ((s.put d2 v2 h2' n2').put d1 v1 h n) := by
  cases d1 <;> cases d2 <;> refine ⟨fun t => ?_, rfl, rfl⟩ <;> try rfl
  rename_i a b
  have hne : a ≠ b := fun e => hd a rfl (by rw [e])
  simp only [St.put, look_cons]
  by_cases e1 : t = a
  · rw [if_pos e1, if_neg (fun e => hne (by rw [← e1, e]))]
    rw [if_pos e1]
  · rw [if_neg e1, if_neg e1]
theorem swap {C : Cx} {ops : Array Oper} {o1 o2 : Oper} {s : St} {r1 r2 : R1} (hc : comm ops o1 o2 = true) (hh : HN s.h s.n) (h1 : xr C ops o1 s.ρ s.h s.n = some r1) (p1 : r1.pre)
    (h2 : xr C ops o2 (s.put o1.dst r1.v r1.h r1.n).ρ (s.put o1.dst r1.v r1.h r1.n).h (s.put o1.dst r1.v r1.h r1.n).n = some r2) (p2 : r2.pre) (hdy : cls o1.op = 1 → ∀ l, rdOf o1 s.ρ = some l → wrOf o2 s.ρ ≠ some l) :
    ∃ r2' r1', xr C ops o2 s.ρ s.h s.n = some r2' ∧ r2'.pre ∧ xr C ops o1 (s.put o2.dst r2'.v r2'.h r2'.n).ρ (s.put o2.dst r2'.v r2'.h r2'.n).h (s.put o2.dst r2'.v r2'.h r2'.n).n = some r1' ∧ r1'.pre ∧
      Same ((s.put o1.dst r1.v r1.h r1.n).put o2.dst r2.v r2.h r2.n) ((s.put o2.dst r2'.v r2'.h r2'.n).put o1.dst r1'.v r1'.h r1'.n) := by
  have puth : ∀ (s : St) d v h n, (s.put d v h n).h = h ∧ (s.put d v h n).n = n := fun s d v h n => by cases d <;> exact ⟨rfl, rfl⟩
  simp only [comm, apart, Bool.and_eq_true, Bool.or_eq_true, beq_iff_eq] at hc
  obtain ⟨⟨ha1, ha2⟩, hcls⟩ := hc
  have hd1 : ∀ t, o1.dst = some t → t ∉ readsOf ops o2 ∧ o2.dst ≠ some t := fun t ht => by
    rw [ht] at ha1
    simp only [Bool.and_eq_true, Bool.not_eq_true', beq_eq_false_iff_ne, ne_eq] at ha1
    refine ⟨fun hm => ?_, ha1.2⟩
    have := ha1.1
    simp [hm] at this
  have hd2 : ∀ t, o2.dst = some t → t ∉ readsOf ops o1 := fun t ht => by
    rw [ht] at ha2
    intro hm
    simp [hm] at ha2
  have e2 : ∀ v h n h' n', xr C ops o2 (s.put o1.dst v h n).ρ h' n' = xr C ops o2 s.ρ h' n' := fun v h n h' n' => xr_congr (put_reads fun t ht => (hd1 t ht).1)
  have e1 : ∀ v h n h' n', xr C ops o1 (s.put o2.dst v h n).ρ h' n' = xr C ops o1 s.ρ h' n' := fun v h n h' n' => xr_congr (put_reads hd2)
  rw [e2, (puth _ _ _ _ _).1, (puth _ _ _ _ _).2] at h2
  have hsw : ∀ (v1 v2 : AV) (a b : AHeap) (c d : Nat) (h : AHeap) (n : Nat), Same ((s.put o1.dst v1 a c).put o2.dst v2 h n) ((s.put o2.dst v2 b d).put o1.dst v1 h n) := fun v1 v2 a b c d h n =>
    same_swap (fun t ht => (hd1 t ht).2) v1 v2 a a b b h c c d d n
  by_cases q1 : cls o1.op = 0
  · obtain ⟨r0, x1, x2⟩ := xr_cls0 q1 h1 s.h s.n
    rw [h1] at x1
    cases x1
    have y1 : r1.h = s.h := x2.h1
    have y2 : r1.n = s.n := x2.n1
    rw [y1, y2] at h2
    obtain ⟨r1', x3, x4⟩ := xr_cls0 q1 h1 r2.h r2.n
    refine ⟨r2, r1', h2, p2, by rw [e1, (puth _ _ _ _ _).1, (puth _ _ _ _ _).2]; exact x3, by rw [← x4.pre]; exact p1, ?_⟩
    rw [← x4.v, x4.h2, x4.n2]
    exact hsw _ _ _ _ _ _ _ _
  by_cases q2 : cls o2.op = 0
  · obtain ⟨r2', x1, x2⟩ := xr_cls0 q2 h2 s.h s.n
    refine ⟨r2', r1, x1, by rw [← x2.pre]; exact p2, by rw [e1, (puth _ _ _ _ _).1, (puth _ _ _ _ _).2, x2.h2, x2.n2]; exact h1, p1, ?_⟩
    rw [x2.v, x2.h1, x2.n1]
    exact hsw _ _ _ _ _ _ _ _
  have q3 : cls o1.op = 1 ∧ (cls o2.op = 1 ∨ (o1.guard = none ∧ cls o2.op = 2) ∨ (o1.guard = none ∧ (mainRd o1.op).isSome = true ∧ o2.guard = none ∧ (mainWr o2.op).isSome = true)) := by
    rcases hcls with (((h | h) | h) | h) | h
    · exact absurd h q1
    · exact absurd h q2
    · exact ⟨h.1, .inl h.2⟩
    · exact ⟨h.1.1, .inr (.inl ⟨by simpa using h.1.2, h.2⟩)⟩
    · exact ⟨h.1.1.1.1, .inr (.inr ⟨by simpa using h.1.1.1.2, h.1.1.2, by simpa using h.1.2, h.2⟩)⟩
  obtain ⟨q3, q4⟩ := q3
  obtain ⟨y1, y2⟩ := xr_cls1 q3 h1
  rw [y1, y2] at h2
  rcases q4 with q4 | ⟨q4, q5⟩ | ⟨q4, q5, q6, q7⟩
  rotate_right
  · obtain ⟨x1, hx1⟩ := Option.isSome_iff_exists.1 q5
    obtain ⟨x2, hx2⟩ := Option.isSome_iff_exists.1 q7
    have nocall : ∀ op : Op, (mainRd op).isSome = true ∨ (mainWr op).isSome = true → ∀ fv args ts, op ≠ .call ⟨.value fv, args, ts⟩ := fun op h fv args ts e => by subst e; rcases h with h | h <;> cases h
    have f1 : xr C ops o1 s.ρ s.h s.n = some (step C.P (ev s.ρ) s.h s.n o1.op) := by
      unfold xr; rw [q4]; simp only
      split
      · rename_i hop; exact absurd hop (nocall _ (.inl q5) _ _ _)
      · rfl
    have f1' : ∀ h n, xr C ops o1 s.ρ h n = some (step C.P (ev s.ρ) h n o1.op) := fun h n => by
      unfold xr; rw [q4]; simp only
      split
      · rename_i hop; exact absurd hop (nocall _ (.inl q5) _ _ _)
      · rfl
    have f2' : xr C ops o2 s.ρ s.h s.n = some (step C.P (ev s.ρ) s.h s.n o2.op) := by
      unfold xr; rw [q6]; simp only
      split
      · rename_i hop; exact absurd hop (nocall _ (.inr q7) _ _ _)
      · rfl
    rw [h1] at f1
    cases f1
    rw [h2] at f2'
    cases f2'
    have hw : ∀ l, nameOf (ev s.ρ x1) = some l → ∀ ob, s.h l = some ob → (step C.P (ev s.ρ) s.h s.n o2.op).h l = some ob := fun l hl ob hob => by
      rw [write_at hx2 p2 (hh.lt hob) fun e => hdy q3 l ?_ ?_]
      · exact hob
      · simp only [rdOf, q4, hx1]; exact hl
      · simp only [wrOf, q6, hx2]; exact e
    obtain ⟨z1, z2, z3, z4⟩ := read_at hx1 q3 (h := s.h) (h' := (step C.P (ev s.ρ) s.h s.n o2.op).h) s.n (step C.P (ev s.ρ) s.h s.n o2.op).n hw p1
    refine ⟨_, _, h2, p2, by rw [e1, (puth _ _ _ _ _).1, (puth _ _ _ _ _).2]; exact f1' _ _, z1, ?_⟩
    rw [z2, z3, z4]
    exact hsw _ _ _ _ _ _ _ _
  · obtain ⟨z1, z2⟩ := xr_cls1 q4 h2
    refine ⟨r2, r1, h2, p2, by rw [e1, (puth _ _ _ _ _).1, (puth _ _ _ _ _).2, z1, z2]; exact h1, p1, ?_⟩
    rw [z1, z2, y1, y2]
    exact hsw _ _ _ _ _ _ _ _
  · obtain ⟨ob, z1, z2⟩ := xr_cls2 q5 h2 p2
    obtain ⟨r1', x1, x2, x3, x4, x5⟩ := xr_mono1 (h' := r2.h) q3 q4 h1 p1 r2.n (fun l ob' hl => by rw [z1, upd_ne _ _ (by have := hh.lt hl; omega)]; exact hl)
    refine ⟨r2, r1', h2, p2, by rw [e1, (puth _ _ _ _ _).1, (puth _ _ _ _ _).2]; exact x1, x2, ?_⟩
    rw [x3, x4, x5]
    exact hsw _ _ _ _ _ _ _ _

theorem mainRd_mem {op : Op} {x : Operand} (h : mainRd op = some x) : x ∈ op.operands.toList := by
  cases op <;> simp only [mainRd] at h <;> try (cases h; done)
  case call c =>
    obtain ⟨ce, args, ts⟩ := c
    cases ce with
    | builtin b =>
      cases b <;> simp only at h <;> try (cases h; done)
      simp [Op.operands, Call.operands]
      exact Array.mem_of_getElem? h
    | value f => cases h
    | invoke f m => cases h
  all_goals (cases h; simp [Op.operands])
theorem mainWr_mem {op : Op} {x : Operand} (h : mainWr op = some x) : x ∈ op.operands.toList := by
  cases op <;> simp only [mainWr] at h <;> try (cases h; done)
  case call c =>
    obtain ⟨ce, args, ts⟩ := c
    cases ce with
    | builtin b =>
      cases b <;> simp only at h <;> try (cases h; done)
      simp [Op.operands, Call.operands]
      exact Array.mem_of_getElem? h
    | value f => cases h
    | invoke f m => cases h
  all_goals (cases h; simp [Op.operands])
theorem wrOf_congr {ops : Array Oper} {o : Oper} {ρ ρ' : List (Nat × AV)} (hr : ∀ t, t ∈ readsOf ops o → look ρ t = look ρ' t) : wrOf o ρ = wrOf o ρ' := by
  unfold wrOf
  split
  · rfl
  · split
    · rename_i x hx
      have : ev ρ x = ev ρ' x := by
        cases x with
        | tmp t => exact hr t (by simp only [readsOf, List.mem_append]; exact .inl (mem_tmpsOf (mainWr_mem hx)))
        | _ => rfl
      rw [this]
    · rfl
theorem rdOf_congr {ops : Array Oper} {o : Oper} {ρ ρ' : List (Nat × AV)} (hr : ∀ t, t ∈ readsOf ops o → look ρ t = look ρ' t) : rdOf o ρ = rdOf o ρ' := by
  unfold rdOf
  split
  · rfl
  · split
    · rename_i x hx
      have : ev ρ x = ev ρ' x := by
        cases x with
        | tmp t => exact hr t (by simp only [readsOf, List.mem_append]; exact .inl (mem_tmpsOf (mainRd_mem hx)))
        | _ => rfl
      rw [this]
    · rfl
/-- An operation that may go ahead of those before it is taken first. -/
theorem WX.front {C : Cx} {ops : Array Oper} {k : List Item} {i : Nat} {o : Oper} {post : List (Nat × Oper)} : ∀ (pre : List (Nat × Oper)) (rds : List (Nat × Nat)) (s : St), HN s.h s.n → (∀ p, p ∈ pre → comm ops p.2 o = true ∧ fol ops i o.after.toList p.1 = false) →
    WX C (Sem C k) ops (pre ++ (i, o) :: post) rds s → ∃ r, xr C ops o s.ρ s.h s.n = some r ∧ dynC ops i o rds (wrOf o s.ρ) ∧ r.pre ∧ WX C (Sem C k) ops (pre ++ post) rds (s.put o.dst r.v r.h r.n)
  | [], rds, s, _, _, h => by
    simp only [List.nil_append, WX] at h
    split at h
    · exact h.elim
    · rename_i r hr
      refine ⟨r, hr, h.1, h.2.1, WX.sub _ _ _ _ (fun p hp => ?_) h.2.2⟩
      cases rdOf o s.ρ with
      | none => exact hp
      | some l => exact List.mem_cons_of_mem _ hp
  | (j, oj) :: pre, rds, s, hh, hc, h => by
    simp only [List.cons_append, WX] at h
    split at h
    · exact h.elim
    · rename_i r1 hr1
      have hh1 : HN (s.put oj.dst r1.v r1.h r1.n).h (s.put oj.dst r1.v r1.h r1.n).n := by
        have := xr_HN hh hr1 h.2.1
        cases oj.dst <;> exact this
      obtain ⟨r2, h2, d2, p2, h3⟩ := WX.front pre _ _ hh1 (fun p hp => hc p (by simp [hp])) h.2.2
      obtain ⟨hcm, hne⟩ := hc (j, oj) (by simp)
      have hap := hcm
      simp only [comm, apart, Bool.and_eq_true] at hap
      obtain ⟨⟨ha1, ha2⟩, _⟩ := hap
      have hd1 : ∀ t, oj.dst = some t → t ∉ readsOf ops o := fun t ht => by
        rw [ht] at ha1
        simp only [Bool.and_eq_true, Bool.not_eq_true', beq_eq_false_iff_ne, ne_eq] at ha1
        intro hm
        have := ha1.1
        simp [hm] at this
      have hd2 : ∀ t, o.dst = some t → t ∉ readsOf ops oj := fun t ht => by
        rw [ht] at ha2
        intro hm
        simp [hm] at ha2
      have hwr : wrOf o (s.put oj.dst r1.v r1.h r1.n).ρ = wrOf o s.ρ := wrOf_congr (put_reads hd1)
      rw [hwr] at d2
      obtain ⟨r2', r1', q1, q2, q3, q4, q5⟩ := swap hcm hh hr1 h.2.1 h2 p2 (fun _ l hl hw => by
        rw [hl, hw] at d2
        have := dynL_mem d2 (j, l) (by simp [addRd]) rfl
        rw [hne] at this
        cases this)
      have d2' : dynC ops i o rds (wrOf o s.ρ) := dynC_sub (fun p hp => by
        cases rdOf oj s.ρ with
        | none => exact hp
        | some l => exact List.mem_cons_of_mem _ hp) d2
      refine ⟨r2', q1, d2', q2, ?_⟩
      simp only [List.cons_append, WX]
      rw [q3]
      have same : ∀ (l : List (Nat × Oper)) (rds : List (Nat × Nat)) (a b : St), Same a b → WX C (Sem C k) ops l rds a → WX C (Sem C k) ops l rds b := fun l => by
        induction l with
        | nil => intro rds a b hs h; exact Sem.same hs h
        | cons p l ih =>
          intro rds a b hs h
          obtain ⟨jj, oo⟩ := p
          simp only [WX] at h ⊢
          rw [← xr_congr (C := C) (ops := ops) (o := oo) (fun t _ => hs.look t), ← hs.h, ← hs.n, ← wrOf_congr (ops := ops) (o := oo) (fun t _ => hs.look t), ← rdOf_congr (ops := ops) (o := oo) (fun t _ => hs.look t)]
          split at h
          · exact h.elim
          · exact ⟨h.1, h.2.1, ih _ _ _ (hs.put _ _ _ _) h.2.2⟩
      rw [wrOf_congr (ops := ops) (o := oj) (put_reads hd2), rdOf_congr (ops := ops) (o := oj) (put_reads hd2)]
      exact ⟨h.1, q4, same _ _ _ _ q5 h3⟩

theorem drawPairs_spec {ops : Array Oper} : ∀ (l : List Oper) (j : Nat), drawPairs ops j l = true → ∀ (m : Nat) (o : Oper), l[m]? = some o → (∀ (i : Nat) (oi : Oper), i < j + m → ops[i]? = some oi → comm ops oi o = true ∨ ordB ops ops.size i (j + m) = true) ∧ ∀ e, e ∈ o.after.toList → Region.binds .any e = true → e.on < j + m
  | [], _, _, m, o, h => by simp at h
  | x :: l, j, hp, m, o, h => by
    simp only [drawPairs, Bool.and_eq_true] at hp
    obtain ⟨⟨h1, h2⟩, h3⟩ := hp
    cases m with
    | zero =>
      simp at h
      subst h
      refine ⟨fun i oi hi ho => ?_, fun e he hb => ?_⟩
      · rw [List.all_eq_true] at h1
        have hm : (oi, i) ∈ (ops.toList.take j).zipIdx := by
          rw [List.mem_zipIdx_iff_getElem?]
          rw [List.getElem?_take, if_pos (by simpa using hi)]
          simpa using ho
        have := h1 (oi, i) hm
        simpa [Bool.or_eq_true] using this
      · rw [List.all_eq_true] at h2
        have := h2 e he
        rw [hb] at this
        simpa using this
    | succ m =>
      simp at h
      have := drawPairs_spec l (j + 1) h3 m o h
      rw [show j + (m + 1) = j + 1 + m by omega]
      exact this

structure Inv (ops : Array Oper) (listed : Array Bool) (l : List (Nat × Oper)) : Prop where
  size : listed.size = ops.size
  left : ∀ i, i < ops.size → (listed.getD i true = false ↔ ∃ o, (i, o) ∈ l)
  valid : validL ops l
  sorted : l.Pairwise (fun a b => a.1 < b.1)
  closed : ∀ i o, listed.getD i false = true → ops[i]? = some o → ∀ e, e ∈ o.after.toList → Region.binds .any e = true → listed.getD e.on false = true

theorem ord_false {ops : Array Oper} {listed : Array Bool} (hcl : ∀ i o, listed.getD i false = true → ops[i]? = some o → ∀ e, e ∈ o.after.toList → Region.binds .any e = true → listed.getD e.on false = true) {i : Nat} (hi : listed.getD i false = false) :
    ∀ (f j : Nat) (o : Oper), ops[j]? = some o → (∀ e, e ∈ o.after.toList → Region.binds .any e = true → listed.getD e.on false = true) → ordB ops f i j = false := by
  intro f
  induction f with
  | zero => intro j o _ _; rfl
  | succ f ih =>
    intro j o ho hr
    simp only [ordB, ho]
    rw [List.any_eq_false]
    intro e he hc
    simp only [Bool.and_eq_true, Bool.or_eq_true, beq_iff_eq] at hc
    obtain ⟨h1, h2⟩ := hc
    have h3 := hr e he h1
    rcases h2 with h2 | h2
    · rw [h2, hi] at h3; cases h3
    · cases hm : ops[e.on]? with
      | none => cases f <;> simp [ordB, hm] at h2
      | some oe =>
        have := ih e.on oe hm (hcl _ _ h3 hm)
        rw [this] at h2; cases h2

theorem ready_spec {ops : Array Oper} {listed : Array Bool} {i : Nat} (hi : i ∈ Region.ready .any ops listed) : listed.getD i true = false ∧ i < ops.size ∧ ∃ o, ops[i]? = some o ∧ ∀ e, e ∈ o.after.toList → Region.binds .any e = true → listed.getD e.on false = true := by
  obtain ⟨h1, o, h2, h3⟩ := mem_ready.1 hi
  exact ⟨h1, (Array.getElem?_eq_some_iff.1 h2).1, o, h2, fun e he hb => h3 e (by simpa using he) hb⟩

theorem Sem.go {C : Cx} {ops : Array Oper} {k : List Item} (hok : drawOK ops = true) (hd : dstOK C.N ops.toList = true) : ∀ (fuel t : Nat) (listed : Array Bool) (l : List (Nat × Oper)) (s : St), Inv ops listed l → l.length ≤ fuel →
    WX C (Sem C k) ops l [] s → Sem C (.inRegion ops (Region.linearise.go .any ops fuel t listed []) :: k) s := by
  have hspec := fun (m : Nat) (o : Oper) (h : ops[m]? = some o) => by
    have := drawPairs_spec ops.toList 0 hok m o (by simpa using h)
    simpa only [Nat.zero_add] using this
  intro fuel
  induction fuel with
  | zero =>
    intro t listed l s _ hl h
    obtain rfl : l = [] := List.eq_nil_of_length_eq_zero (by omega)
    simp only [Region.linearise.go, List.reverse_nil]
    exact Sem.regionEnd h
  | succ fuel ih =>
    intro t listed l s hinv hl h
    simp only [Region.linearise.go]
    change Sem C (.inRegion ops (match (Region.ready .any ops listed)[t % (Region.ready .any ops listed).length]? with
      | some i => Region.linearise.go .any ops fuel (t / (Region.ready .any ops listed).length) (listed.setIfInBounds i true) [i]
      | none => [].reverse) :: k) s
    cases hi : (Region.ready .any ops listed)[t % (Region.ready .any ops listed).length]? with
    | none =>
      have hnil : Region.ready .any ops listed = [] := by
        cases hr : Region.ready .any ops listed with
        | nil => rfl
        | cons x xs =>
          rw [hr] at hi
          have hlt : t % (x :: xs).length < (x :: xs).length := Nat.mod_lt _ (by simp)
          rw [List.getElem?_eq_getElem hlt] at hi
          cases hi
      cases l with
      | nil => exact Sem.regionEnd h
      | cons p l =>
        exfalso
        obtain ⟨i0, o0⟩ := p
        have ho := hinv.valid i0 o0 (by simp)
        have hlt : i0 < ops.size := (Array.getElem?_eq_some_iff.1 ho).1
        have hun := (hinv.left i0 hlt).2 ⟨o0, by simp⟩
        have hmin : ∀ j o, (j, o) ∈ l → i0 < j := fun j o hm => (List.pairwise_cons.1 hinv.sorted).1 (j, o) hm
        have : i0 ∈ Region.ready .any ops listed := by
          refine mem_ready.2 ⟨hun, o0, ho, fun e he hb => ?_⟩
          have h1 := (hspec i0 o0 ho).2 e (by simpa using he) hb
          cases hq : listed.getD e.on false with
          | true => rfl
          | false =>
            exfalso
            have hq' : listed.getD e.on true = false := by
              have : e.on < listed.size := by rw [hinv.size]; omega
              simp [Array.getD_eq_getD_getElem?, this] at hq ⊢
              exact hq
            obtain ⟨o', hm⟩ := (hinv.left e.on (by omega)).1 hq'
            rcases List.mem_cons.1 hm with hm | hm
            · cases hm; omega
            · have := hmin _ _ hm; omega
        rw [hnil] at this; cases this
    | some i =>
      simp only []
      rw [linearise_go_acc, List.reverse_singleton, List.singleton_append]
      have hmem := List.mem_of_getElem? hi
      obtain ⟨h1, h2, o, h3, h4⟩ := ready_spec hmem
      obtain ⟨o', hm⟩ := (hinv.left i h2).1 h1
      have := hinv.valid i o' hm
      rw [h3] at this
      cases this
      obtain ⟨pre, post, rfl⟩ := List.append_of_mem hm
      have hpre : ∀ p, p ∈ pre → p.1 < i ∧ listed.getD p.1 false = false ∧ ops[p.1]? = some p.2 := fun p hp => by
        have hv := hinv.valid p.1 p.2 (by simp [hp])
        have hlt := (Array.getElem?_eq_some_iff.1 hv).1
        refine ⟨(List.pairwise_append.1 hinv.sorted).2.2 p hp (i, o) (by simp), ?_, hv⟩
        have := (hinv.left p.1 hlt).2 ⟨p.2, by simp [hp]⟩
        have hls : p.1 < listed.size := by rw [hinv.size]; exact hlt
        simp [Array.getD_eq_getD_getElem?, hls] at this ⊢
        exact this
      have hcomm : ∀ p, p ∈ pre → comm ops p.2 o = true ∧ fol ops i o.after.toList p.1 = false := fun p hp => by
        obtain ⟨q1, q2, q3⟩ := hpre p hp
        refine ⟨?_, ?_⟩
        · rcases (hspec i o h3).1 p.1 p.2 q1 q3 with hc | hc
          · exact hc
          · rw [ord_false hinv.closed q2 ops.size i o h3 h4] at hc; cases hc
        · unfold fol
          cases hE : hasE o.after.toList p.1 with
          | false => rw [if_neg (by simp)]; exact ord_false hinv.closed q2 ops.size i o h3 h4
          | true =>
            obtain ⟨e, e1, e2, e3⟩ := hasE_spec hE
            have := h4 e e1 e2
            rw [e3, q2] at this; cases this
      intro L a w hx hr
      have hh : HN s.h s.n := fun l hl => hr.good.out hl
      obtain ⟨r, q1, _, q2, q3⟩ := WX.front pre [] s hh hcomm h
      have hinv' : Inv ops (listed.setIfInBounds i true) (pre ++ post) := by
        have hil : i < listed.size := by rw [hinv.size]; exact h2
        refine ⟨by simp [hinv.size], fun j hj => ?_, fun j o hm => hinv.valid j o (by rcases List.mem_append.1 hm with hm | hm; simp [hm]; simp [hm]), ?_, fun j oj hj ho e he hb => ?_⟩
        · by_cases hji : j = i
          · subst hji
            have : (listed.setIfInBounds j true).getD j true = true := by simp [Array.getD_eq_getD_getElem?, hil]
            rw [this]
            refine ⟨fun h => (by cases h), fun ⟨o2, hm2⟩ => ?_⟩
            exfalso
            have hs := List.pairwise_append.1 hinv.sorted
            rcases List.mem_append.1 hm2 with hm2 | hm2
            · have := hs.2.2 _ hm2 (j, o) (by simp); simp at this
            · have := (List.pairwise_cons.1 hs.2.1).1 _ hm2; simp at this
          · rw [getD_set_ne true (fun e => hji e.symm), hinv.left j hj]
            constructor
            · rintro ⟨o2, hm2⟩
              refine ⟨o2, ?_⟩
              rcases List.mem_append.1 hm2 with hm2 | hm2
              · simp [hm2]
              · rcases List.mem_cons.1 hm2 with hm2 | hm2
                · cases hm2; exact absurd rfl hji
                · simp [hm2]
            · rintro ⟨o2, hm2⟩
              exact ⟨o2, by rcases List.mem_append.1 hm2 with hm2 | hm2; simp [hm2]; simp [hm2]⟩
        · have hs := List.pairwise_append.1 hinv.sorted
          exact List.pairwise_append.2 ⟨hs.1, (List.pairwise_cons.1 hs.2.1).2, fun x hx y hy => hs.2.2 x hx y (by simp [hy])⟩
        · by_cases hji : j = i
          · subst hji
            rw [h3] at ho
            cases ho
            exact getD_set_true (h4 e he hb)
          · rw [getD_set_ne false (fun e => hji e.symm)] at hj
            exact getD_set_true (hinv.closed j oj hj ho e he hb)
      have hlen : (pre ++ post).length ≤ fuel := by simp at hl ⊢; omega
      have := ih (t / (Region.ready .any ops listed).length) (listed.setIfInBounds i true) (pre ++ post) _ hinv' hlen q3
      exact xr_sound h3 (fun t ht => dstOK_mem hd o (by have := Array.mem_of_getElem? h3; simpa using this) t ht) q1 q2 this L a w hx hr

theorem inv_start {ops : List Oper} : Inv (⟨ops⟩ : Array Oper) (Array.replicate ops.length false) (numbered 0 ops) := by
  have hv : validL (⟨ops⟩ : Array Oper) (numbered 0 ops) := by simpa using validL_numbered ops 0 [] rfl
  have hf : ∀ j d, j < ops.length → (Array.replicate ops.length false).getD j d = false := fun j d hj => by simp [Array.getD_eq_getD_getElem?, hj]
  have hmem : ∀ (l : List Oper) (i j : Nat) (o : Oper), l[j]? = some o → (i + j, o) ∈ numbered i l := fun l => by
    induction l with
    | nil => intro i j o h; simp at h
    | cons x l ih =>
      intro i j o h
      cases j with
      | zero => simp at h; subst h; simp [numbered]
      | succ j => simp at h; have := ih (i + 1) j o h; rw [show i + (j + 1) = i + 1 + j by omega]; simp [numbered, this]
  have hsort : ∀ (l : List Oper) (i : Nat), (numbered i l).Pairwise (fun a b => a.1 < b.1) ∧ ∀ p, p ∈ numbered i l → i ≤ p.1 := fun l => by
    induction l with
    | nil => intro i; exact ⟨.nil, fun p hp => by cases hp⟩
    | cons x l ih =>
      intro i
      obtain ⟨h1, h2⟩ := ih (i + 1)
      refine ⟨List.pairwise_cons.2 ⟨fun p hp => by have := h2 p hp; show i < p.1; omega, h1⟩, fun p hp => ?_⟩
      rcases List.mem_cons.1 hp with rfl | hp
      · exact Nat.le_refl _
      · have := h2 p hp; omega
  refine ⟨by simp, fun i hi => ?_, hv, (hsort ops 0).1, fun i o h ho => ?_⟩
  · have hi' : i < ops.length := by simpa using hi
    rw [hf i true hi']
    refine ⟨fun _ => ⟨ops[i], ?_⟩, fun _ => rfl⟩
    have := hmem ops 0 i ops[i] (List.getElem?_eq_getElem hi')
    simpa using this
  · exfalso
    by_cases hi : i < ops.length
    · rw [hf i false hi] at h; cases h
    · simp [Array.getD_eq_getD_getElem?, Array.getElem?_replicate, hi] at h

theorem Sem.draw {C : Cx} {id : Nat} {ops : Array Oper} {k : List Item} {s : St} (hok : drawOK ops = true) (hd : dstOK C.N ops.toList = true) (h : WX C (Sem C k) ops (numbered 0 ops.toList) [] s) : Sem C (.code (.region id ops true) :: k) s := by
  intro L a w hx hr cs
  obtain ⟨ops⟩ := ops
  have hstep := stepR_region_draw (P := C.P) (b := C.base) (a := a) (k := k) (cs := cs) (w := w) (ops := (⟨ops⟩ : Array Oper)) (id := id)
  have hlen : ∀ (l : List Oper) (i : Nat), (numbered i l).length = l.length := fun l => by
    induction l with
    | nil => intro i; rfl
    | cons x l ih => intro i; simp [numbered, ih]
  have hsch : Region.schedule (C.P.follows .mixedOrders) (⟨ops⟩ : Array Oper) (w.tape w.drawn (.order C.base.fn id)) = Region.linearise.go .any (⟨ops⟩ : Array Oper) ops.length (w.tape w.drawn (.order C.base.fn id)) (Array.replicate ops.length false) [] := by
    simp only [Region.schedule, C.hm, Bool.true_or, if_true, Region.linearise, List.size_toArray]
  rw [hsch] at hstep
  have hgo := Sem.go hok hd ops.length (w.tape w.drawn (.order C.base.fn id)) (Array.replicate ops.length false) _ s inv_start (by rw [hlen]; exact Nat.le_refl _) h
  have hr' : Rel L C.N s a w.drew := ⟨hr.size, hr.slots, hr.good.drew⟩
  exact (hgo L a w.drew hx hr' cs).of_steps (.one hstep)
end Go.AM
