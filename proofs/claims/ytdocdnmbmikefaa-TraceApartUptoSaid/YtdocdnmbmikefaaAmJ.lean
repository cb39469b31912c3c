/- An abstract machine over the model: calls of known arguments, reckoned out. -/
import Derived.Test.YtdocdnmbmikefaaAmI
set_option linter.unusedVariables false
set_option linter.unusedSimpArgs false
namespace Go.AM

abbrev LH := List (Nat × AOb)
def lget : LH → AHeap
  | [] => fun _ => none
  | (l, o) :: r => fun k => if k = l then some o else lget r k
def lset : LH → Nat → AOb → LH
  | [], l, ob => [(l, ob)]
  | (k, o) :: r, l, ob => if l = k then (l, ob) :: r else (k, o) :: lset r l ob
def ldel : LH → Nat → LH
  | [], _ => []
  | (k, o) :: r, l => if k = l then ldel r l else (k, o) :: ldel r l
def lcut (n : Nat) : LH → LH
  | [] => []
  | (k, o) :: r => if Nat.blt k n then (k, o) :: lcut n r else lcut n r
theorem lget_cons (l : Nat) (o : AOb) (H : LH) : lget ((l, o) :: H) = upd (lget H) l (some o) := rfl
theorem lget_lset (l : Nat) (ob : AOb) : ∀ H : LH, lget (lset H l ob) = upd (lget H) l (some ob)
  | [] => rfl
  | (k, o) :: r => by
    funext j
    simp only [lset]
    split
    · rename_i e; subst e
      simp only [lget, upd]
      split <;> rfl
    · rename_i e
      simp only [lget, lget_lset l ob r, upd]
      by_cases h1 : j = k
      · rw [if_pos h1, if_neg (fun h2 => e (by rw [← h2, h1])), if_pos h1]
      · rw [if_neg h1, if_neg h1]
theorem lget_ldel (l : Nat) : ∀ H : LH, lget (ldel H l) = upd (lget H) l none
  | [] => by funext j; simp only [ldel, lget, upd]; split <;> rfl
  | (k, o) :: r => by
    funext j
    simp only [ldel]
    split
    · rename_i e; subst e
      rw [lget_ldel k r]
      simp only [lget, upd]
      split <;> rfl
    · rename_i e
      simp only [lget, lget_ldel l r, upd]
      by_cases h1 : j = k
      · rw [if_pos h1, if_neg (fun h2 => e (by rw [← h2, h1])), if_pos h1]
      · rw [if_neg h1, if_neg h1]
theorem lget_lcut (n : Nat) : ∀ (H : LH) (l : Nat), lget (lcut n H) l = if l < n then lget H l else none
  | [], l => by simp [lcut, lget]
  | (k, o) :: r, l => by
    simp only [lcut]
    split
    · rename_i e
      have e := blt_ok e
      simp only [lget, lget_lcut n r l]
      by_cases h1 : l = k
      · rw [if_pos h1, if_pos h1, if_pos (by omega)]
      · rw [if_neg h1, if_neg h1]
    · rename_i e
      simp only [lget, lget_lcut n r l]
      by_cases h1 : l = k
      · rw [if_neg (fun h2 => e (by subst h1; exact Nat.ble_eq_true_of_le h2)), if_neg (fun h2 => e (by subst h1; exact Nat.ble_eq_true_of_le h2))]
      · rw [if_neg h1]

/-- Names below n alone, as a test. -/
def scB (n : Nat) : Nat → AV → Bool
  | _, .d _ => true
  | _, .rp _ => true
  | _, .ptr l _ _ _ => Nat.blt l n
  | _, .arr l _ _ _ => Nat.blt l n
  | _, .map l => Nat.blt l n
  | _, .itr l => Nat.blt l n
  | _, .yld l => Nat.blt l n
  | k + 1, .fn _ xs ys => xs.all (scB n k) && ys.all (scB n k)
  | k + 1, .agg cs => cs.all (scB n k)
  | k + 1, .tup cs => cs.all (scB n k)
  | k + 1, .opt _ v => scB n k v
  | _, .any => true
  | 0, _ => false
theorem scB_ok {n : Nat} : ∀ (k : Nat) (v : AV), scB n k v = true → Sc n v := by
  intro k
  induction k with
  | zero =>
    intro v h
    cases v <;> simp only [scB] at h <;> first | exact .d _ | exact .rp _ | exact .any | exact .ptr _ _ _ (blt_ok h) | exact .arr _ _ _ (blt_ok h) | exact .map (blt_ok h) | exact .itr (blt_ok h) | exact .yld (blt_ok h) | cases h
  | succ k ih =>
    have hall : ∀ l : List AV, l.all (scB n k) = true → ∀ c, c ∈ l → Sc n c := fun l h c hc => ih c (List.all_eq_true.1 h c hc)
    intro v h
    cases v <;> simp only [scB] at h <;> first | exact .d _ | exact .rp _ | exact .any | exact .ptr _ _ _ (blt_ok h) | exact .arr _ _ _ (blt_ok h) | exact .map (blt_ok h) | exact .itr (blt_ok h) | exact .yld (blt_ok h) | skip
    · simp only [Bool.and_eq_true] at h; exact .fn _ _ _ (hall _ h.1) (hall _ h.2)
    · exact .agg _ (hall _ h)
    · exact .tup _ (hall _ h)
    · exact .opt _ _ fun _ => ih _ h
def scObB (n : Nat) : AOb → Bool
  | .cells _ _ rows => rows.all fun row => row.all (scB n 4)
  | .map _ _ _ es => es.all fun p => scB n 4 p.2
  | .itr _ cur left => (match cur with | some p => scB n 4 p.2 | none => true) && left.all fun p => scB n 4 p.2
  | .loop _ _ ρ _ _ _ _ _ => ρ.all fun p => scB n 4 p.2
theorem scObB_ok {n : Nat} {ob : AOb} (h : scObB n ob = true) : ScOb n ob := by
  cases ob with
  | cells v sz rows => exact fun row hr x hx => scB_ok 4 x (List.all_eq_true.1 (List.all_eq_true.1 h row hr) x hx)
  | map pin agg kn es => exact fun p hp => scB_ok 4 p.2 (List.all_eq_true.1 h p hp)
  | itr g cur left =>
    simp only [scObB, Bool.and_eq_true] at h
    refine ⟨fun p hp => ?_, fun p hp => scB_ok 4 p.2 (List.all_eq_true.1 h.2 p hp)⟩
    have := h.1
    rw [hp] at this
    exact scB_ok 4 p.2 this
  | loop st pend ρ f N ps asg body =>
    intro t
    have : ∀ ρ : List (Nat × AV), (ρ.all fun p => scB n 4 p.2) = true → Sc n (look ρ t) := fun ρ => by
      induction ρ with
      | nil => intro _; exact .any
      | cons p r ih =>
        intro h
        simp only [List.all_cons, Bool.and_eq_true] at h
        obtain ⟨k, v⟩ := p
        rw [look_cons]
        split
        · exact scB_ok 4 _ h.1
        · exact ih h.2
    exact this ρ h

structure ES where
  ρ : List (Nat × AV)
  H : LH
  n : Nat
def ES.st (s : ES) : St := ⟨s.ρ, lget s.H, s.n⟩
def ES.put (s : ES) (d : Option Nat) (v : AV) (H : LH) (n : Nat) : ES :=
  match d with
  | some t => ⟨(t, v) :: s.ρ, H, n⟩
  | none => ⟨s.ρ, H, n⟩
theorem ES.put_st (s : ES) (d : Option Nat) (v : AV) (H : LH) (n : Nat) : (s.put d v H n).st = s.st.put d v (lget H) n := by cases d <;> rfl
abbrev ER := Option (AV × LH × Nat)

def evFin (H : LH) (n : Nat) (eff : Option Nat) (r : R1) : ER :=
  match eff with
  | none => some (r.v, H, r.n)
  | some l => match r.h l with
    | some ob => some (r.v, if l = n then (l, ob) :: H else lset H l ob, r.n)
    | none => none
def evOp (P : Program) (e : Operand → AV) (H : LH) (n : Nat) (op : Op) : ER :=
  match bStep P e (lget H) op with
  | true => evFin H n (effN e n op) (step P e (lget H) n op)
  | false => none
theorem evOp_ok {P : Program} {e : Operand → AV} {H : LH} {n : Nat} {op : Op} {v : AV} {H' : LH} {n' : Nat} (h : evOp P e H n op = some (v, H', n')) :
    (step P e (lget H) n op).pre ∧ (step P e (lget H) n op).v = v ∧ (step P e (lget H) n op).h = lget H' ∧ (step P e (lget H) n op).n = n' := by
  unfold evOp at h
  split at h
  · rename_i hb
    have hp := bStep_ok (n := n) hb
    have he := eff_sound hp
    unfold evFin at h
    split at h
    · rename_i q
      rw [q] at he
      cases h
      exact ⟨hp, rfl, he, rfl⟩
    · rename_i l q
      rw [q] at he
      simp only at he
      split at h
      · rename_i ob hob
        cases h
        refine ⟨hp, rfl, ?_, rfl⟩
        rw [he, hob]
        split
        · rw [lget_cons]
        · rw [lget_lset]
      · cases h
  · cases h

abbrev Caller := FuncId → List AV → LH → Nat → ER
abbrev Yielder := Nat → List AV → LH → Nat → ER
def evOne (call : Caller) (yld : Yielder) (P : Program) (o : Oper) (s : ES) : ER :=
  match o.op with
  | .call ⟨.value fv, args, _⟩ => match callT (ev s.ρ fv) (args.toList.map (ev s.ρ)) with
    | some (f, as) => call f as s.H s.n
    | none => match ev s.ρ fv with
      | .yld l => yld l (args.toList.map (ev s.ρ)) s.H s.n
      | _ => none
  | .range t x => match (tyOf P t).k, ev s.ρ x with
    | .map _ _, .map l => match lget s.H l with
      | some (.map _ g _ es) => some (.itr s.n, (s.n, .itr g none es) :: ldel s.H l, s.n + 1)
      | _ => none
    | _, _ => none
  | .entry x => match ev s.ρ x with
    | .itr l => match lget s.H l with
      | some (.itr g (some p) _) => some (.tup [keyV g p.1, p.2], s.H, s.n)
      | _ => none
    | _ => none
  | .next x false => match ev s.ρ x with
    | .itr l => match lget s.H l with
      | some (.itr g _ []) => some (.tup [.d (.bool false)], s.H, s.n)
      | some (.itr g _ [p]) => some (.tup [.d (.bool true), keyV g p.1, p.2], lset s.H l (.itr g (some p) []), s.n)
      | _ => none
    | _ => none
  | op => evOp P (ev s.ρ) s.H s.n op
def evRegion (call : Caller) (yld : Yielder) (P : Program) (ops : Array Oper) : List (Nat × Oper) → ES → Option ES
  | [], s => some s
  | (_, o) :: l', s =>
    match o.guard with
    | none => match evOne call yld P o s with
      | some (v, H, n) => evRegion call yld P ops l' (s.put o.dst v H n)
      | none => none
    | some (j, want) => match gv s.ρ ((ops[j]?).bind (·.dst)) want with
      | none => none
      | some true => match evOne call yld P o s with
        | some (v, H, n) => evRegion call yld P ops l' (s.put o.dst v H n)
        | none => none
      | some false => evRegion call yld P ops l' (s.put o.dst (.tup []) s.H s.n)

/-- What is known of a caller: each answer is one of the model's. -/
def CallOK (P : Program) (call : Caller) : Prop := ∀ f as H n v H' n', call f as H n = some (v, H', n') → ∀ K : AV → AHeap → Nat → Prop, K v (lget H') n' → ACall P f as (lget H) n K
def YieldOK (P : Program) (yld : Yielder) : Prop := ∀ l as H n v H' n', yld l as H n = some (v, H', n') → ∀ K : AV → AHeap → Nat → Prop, K v (lget H') n' → AYield P l as (lget H) n K

theorem evOne_ok {C : Cx} {call : Caller} {yld : Yielder} (hc : CallOK C.P call) (hy : YieldOK C.P yld) {ops : Array Oper} {i : Nat} {rest : List Nat} {k : List Item} {s : ES} {o : Oper} (ho : ops[i]? = some o) (hd : ∀ t, o.dst = some t → t < C.N)
    (hw : ∀ L a w, Rel L C.N s.st a w → Region.wanted o (yielded ops a.tmps) = true) {v : AV} {H : LH} {n : Nat} (he : evOne call yld C.P o s = some (v, H, n)) (h : Sem C (.inRegion ops rest :: k) (s.st.put o.dst v (lget H) n)) : Sem C (.inRegion ops (i :: rest) :: k) s.st := by
  unfold evOne at he
  split at he
  · rename_i fv args ts hop
    split at he
    · rename_i f as hct
      exact Sem.call ho hop hd (ev s.ρ) (fun L a w hr => ⟨hr.ev fv, fun x _ => hr.ev x⟩) hw hct (hc _ _ _ _ _ _ _ he _ h)
    · split at he
      · rename_i l hl
        exact Sem.yield ho hop hd (ev s.ρ) (fun L a w hr => ⟨hr.ev fv, fun x _ => hr.ev x⟩) hw hl (hy _ _ _ _ _ _ _ he _ h)
      · cases he
  · rename_i t x hop
    split at he
    · rename_i kt el l hk hx0
      split at he
      · rename_i pin g kn es hl
        cases he
        refine Sem.op (s := s.st) ho hd (sRange C.P t (ev s.ρ x) (lget s.H) s.n) (fun L a w hr => snd_range hop hr.good (hr.ev x)) hw ?_ (fun c e => by rw [hop] at e; cases e) ?_
        · simp only [sRange, hk, hx0, hl]
        · simp only [sRange, hk, hx0, hl]
          rw [lget_cons, lget_ldel] at h; exact h
      · cases he
    · cases he
  · rename_i x hop
    split at he
    · rename_i l hx0
      split at he
      · rename_i g p left hl
        cases he
        refine Sem.op (s := s.st) ho hd (sEntry (ev s.ρ x) (lget s.H) s.n) (fun L a w hr => snd_entry hop hr.good (hr.ev x)) hw ?_ (fun c e => by rw [hop] at e; cases e) ?_
        · simp only [sEntry, hx0, hl]
        · simp only [sEntry, hx0, hl]; exact h
      · cases he
    · cases he
  · rename_i x hop
    split at he
    · rename_i l hx0
      split at he
      · rename_i g cur hl
        cases he
        exact Sem.next (s := s.st) ho hop hd hw hx0 hl (fun _ => h) (fun j p hj => by simp at hj)
      · rename_i g cur p hl
        cases he
        refine Sem.next (s := s.st) ho hop hd hw hx0 hl (fun e => by cases e) (fun j p' hj => ?_)
        cases j with
        | zero =>
          simp only [List.getElem?_cons_zero, Option.some.injEq] at hj
          subst hj
          rw [lget_lset] at h
          exact h
        | succ j => simp at hj
      · cases he
    · cases he
  · obtain ⟨q1, q2, q3, q4⟩ := evOp_ok he
    refine Sem.op (s := s.st) ho hd (step C.P (ev s.ρ) (lget s.H) s.n o.op) (fun L a w hr => step_sound hr.ev hr.good) hw q1 (noDefer q1) ?_
    rw [q2, q3, q4]; exact h

theorem evRegion_ok {C : Cx} {call : Caller} {yld : Yielder} (hc : CallOK C.P call) (hy : YieldOK C.P yld) {ops : Array Oper} {k : List Item} (hd : dstOK C.N ops.toList = true) : ∀ (l : List (Nat × Oper)) (s s' : ES), validL ops l → evRegion call yld C.P ops l s = some s' → Sem C k s'.st → Sem C (.inRegion ops (l.map (·.1)) :: k) s.st
  | [], s, s', _, h, hk => by cases h; exact Sem.regionEnd hk
  | (i, o) :: l, s, s', hv, h, hk => by
    have ho : ops[i]? = some o := hv i o (by simp)
    have hv' : validL ops l := fun i o hm => hv i o (by simp [hm])
    have hdo : ∀ t, o.dst = some t → t < C.N := dstOK_mem hd o (by have := Array.mem_of_getElem? ho; simpa using this)
    simp only [List.map_cons]
    simp only [evRegion] at h
    split at h
    · rename_i hgd
      split at h
      · rename_i v H n he
        have := evRegion_ok hc hy hd l _ _ hv' h hk
        rw [ES.put_st] at this
        exact evOne_ok hc hy ho hdo (fun L a w _ => by simp [Region.wanted, hgd]) he this
      · cases h
    · rename_i j want hgd
      split at h
      · cases h
      · rename_i hg
        split at h
        · rename_i v H n he
          have := evRegion_ok hc hy hd l _ _ hv' h hk
          rw [ES.put_st] at this
          exact evOne_ok hc hy ho hdo (fun L a w hr => gv_spec hr hgd hg) he this
        · cases h
      · rename_i hg
        have := evRegion_ok hc hy hd l _ _ hv' h hk
        rw [ES.put_st] at this
        exact Sem.opSkip (s := s.st) ho hdo _ V_undef (fun L a w hr => gv_spec hr hgd hg) this

/-! ### Regions of an open order -/
def optB : AV → Bool
  | .opt b _ => b
  | _ => true
theorem optB_ok {x : AV} (h : optB x = true) : optOK x := by cases x <;> first | trivial | exact h
def bStepO (P : Program) (ρ : List (Nat × AV)) (h : AHeap) (op : Op) : Bool :=
  match op with
  | .pick c x y => bStep P (ev ρ) h (.pick c x y)
  | op => op.operands.toList.all (fun x => optB (ev ρ x)) && bStep P (fun x => strip (ev ρ x)) h op
theorem optAll_of {ρ : List (Nat × AV)} : ∀ {l : List Operand}, l.all (fun x => optB (ev ρ x)) = true → optAll ρ l
  | [], _ => trivial
  | x :: r, h => by
    simp only [List.all_cons, Bool.and_eq_true] at h
    exact ⟨optB_ok h.1, optAll_of h.2⟩
theorem bStepO_ok {P : Program} {ρ : List (Nat × AV)} {h : AHeap} {n : Nat} {op : Op} (hb : bStepO P ρ h op = true) : (stepO P ρ h n op).pre := by
  unfold bStepO at hb; unfold stepO
  split at hb
  · exact bStep_ok hb
  · rename_i hne
    simp only [Bool.and_eq_true] at hb
    split
    · rename_i c x y; exact (hne c x y rfl).elim
    · exact ⟨optAll_of hb.1, bStep_ok hb.2⟩
def dynB (ops : Array Oper) (i : Nat) (es : List Edge) (l0 : Nat) : List (Nat × Nat) → Bool
  | [] => true
  | p :: r => (if p.2 = l0 then fol ops i es p.1 else true) && dynB ops i es l0 r
theorem dynB_ok {ops : Array Oper} {i : Nat} {es : List Edge} {l0 : Nat} : ∀ {r : List (Nat × Nat)}, dynB ops i es l0 r = true → dynL ops i es l0 r
  | [], _ => trivial
  | p :: r, h => by
    simp only [dynB, Bool.and_eq_true] at h
    refine ⟨?_, dynB_ok h.2⟩
    have := h.1
    split
    · rename_i e; rw [if_pos e] at this; exact this
    · trivial
def dynCB (ops : Array Oper) (i : Nat) (o : Oper) (rds : List (Nat × Nat)) : Option Nat → Bool
  | none => true
  | some l0 => dynB ops i o.after.toList l0 rds
def toE (E : FuncId → List AV → Option AV) : FuncId → List AV → Option (Prop × AV) := fun f as => match E f as with
  | some v => some (True, v)
  | none => none
def evXc (E : FuncId → List AV → Option AV) (f : FuncId) (as : List AV) (H : LH) : Option AV :=
  match E f as with
  | some v => some v
  | none => match frz (lget H) as with
    | some as' => match E f as' with
      | some v => if flat v = true then some v else none
      | none => none
    | none => none
theorem evXc_eq (E : FuncId → List AV → Option AV) (f : FuncId) (as : List AV) (H : LH) : xc (toE E) f as (lget H) = match evXc E f as H with | some v => some (True, v) | none => none := by
  unfold xc evXc toE
  cases E f as with
  | some v => rfl
  | none =>
    simp only
    cases frz (lget H) as with
    | none => rfl
    | some as' =>
      simp only
      cases E f as' with
      | none => rfl
      | some v => simp only; split <;> rfl
def evX (P : Program) (E : FuncId → List AV → Option AV) (ops : Array Oper) (o : Oper) (s : ES) : ER :=
  match o.guard with
  | none => match o.op with
    | .call ⟨.value fv, args, _⟩ => match callT (ev s.ρ fv) (args.toList.map (ev s.ρ)) with
      | none => none
      | some (f, as) => match evXc E f as s.H with
        | some v => some (v, s.H, s.n)
        | none => none
    | op => evOp P (ev s.ρ) s.H s.n op
  | some (j, want) => match gv s.ρ ((ops[j]?).bind (·.dst)) want with
    | none => none
    | some g => match o.op with
      | .call ⟨.value fv, args, _⟩ => match g with
        | false => match callT (strip (ev s.ρ fv)) (args.toList.map fun x => strip (ev s.ρ x)) with
          | none => some (.tup [], s.H, s.n)
          | some (f, as) => match evXc E f as s.H with
            | some v => some (.opt false v, s.H, s.n)
            | none => some (.tup [], s.H, s.n)
        | true => match callT (strip (ev s.ρ fv)) (args.toList.map fun x => strip (ev s.ρ x)) with
          | none => none
          | some (f, as) => match evXc E f as s.H with
            | some v => match optB (ev s.ρ fv) && args.toList.all (fun x => optB (ev s.ρ x)) with
              | true => some (.opt true v, s.H, s.n)
              | false => none
            | none => none
      | op => match isQuiet op with
        | true => match g with
          | true => match bStepO P s.ρ (lget s.H) op with
            | true => some (.opt true (stepO P s.ρ (lget s.H) s.n op).v, s.H, s.n)
            | false => none
          | false => some (.opt false (stepO P s.ρ (lget s.H) s.n op).v, s.H, s.n)
        | false => none
theorem evX_ok {C : Cx} {E : FuncId → List AV → Option AV} (hE : C.E = toE E) {ops : Array Oper} {o : Oper} {s : ES} {v : AV} {H : LH} {n : Nat} (h : evX C.P E ops o s = some (v, H, n)) :
    ∃ r, xr C ops o s.ρ (lget s.H) s.n = some r ∧ r.pre ∧ r.v = v ∧ r.h = lget H ∧ r.n = n := by
  unfold evX at h
  unfold xr
  cases hgd : o.guard with
  | none =>
    rw [hgd] at h
    simp only at h ⊢
    split at h
    · rename_i fv args ts hop
      simp only [hop]
      split at h
      · cases h
      · rename_i f as hct
        simp only [hct]
        split at h
        · rename_i v' hv
          cases h
          simp only [hE, evXc_eq, hv]
          exact ⟨_, rfl, trivial, rfl, rfl, rfl⟩
        · cases h
    · rename_i hno
      obtain ⟨q1, q2, q3, q4⟩ := evOp_ok h
      split
      · rename_i hop; exact (hno _ _ _ hop).elim
      · exact ⟨_, rfl, q1, q2, q3, q4⟩
  | some jw =>
    obtain ⟨j, want⟩ := jw
    rw [hgd] at h
    simp only at h ⊢
    cases hg : gv s.ρ ((ops[j]?).bind (·.dst)) want with
    | none => rw [hg] at h; cases h
    | some g =>
      rw [hg] at h
      simp only at h ⊢
      split at h
      · rename_i fv args ts hop
        simp only [hop]
        cases g with
        | false =>
          simp only at h
          split at h
          · rename_i hct
            simp only [hct]
            cases h; exact ⟨_, rfl, trivial, rfl, rfl, rfl⟩
          · rename_i f as hct
            simp only [hct, hE, evXc_eq]
            split at h
            · rename_i v' hv
              cases h
              simp only [hv]
              exact ⟨_, rfl, (fun e => by cases e), rfl, rfl, rfl⟩
            · rename_i hv
              cases h
              simp only [hv]
              exact ⟨_, rfl, trivial, rfl, rfl, rfl⟩
        | true =>
          simp only at h
          split at h
          · cases h
          · rename_i f as hct
            simp only [hct, hE, evXc_eq]
            split at h
            · rename_i v' hv
              split at h
              · rename_i hb
                cases h
                simp only [Bool.and_eq_true] at hb
                simp only [hv]
                exact ⟨_, rfl, fun _ => ⟨optB_ok hb.1, optAll_of hb.2, trivial⟩, rfl, rfl, rfl⟩
              · cases h
            · cases h
      · rename_i hno
        split at h
        · rename_i hq
          have hgo : ∃ r, some (⟨g = true → (stepO C.P s.ρ (lget s.H) s.n o.op).pre, .opt g (stepO C.P s.ρ (lget s.H) s.n o.op).v, lget s.H, s.n⟩ : R1) = some r ∧ r.pre ∧ r.v = v ∧ r.h = lget H ∧ r.n = n := by
            cases g with
            | true =>
              simp only at h
              split at h
              · rename_i hb
                cases h
                exact ⟨_, rfl, fun _ => bStepO_ok hb, rfl, rfl, rfl⟩
              · cases h
            | false =>
              cases h
              exact ⟨_, rfl, (fun e => by cases e), rfl, rfl, rfl⟩
          split
          · rename_i hop; exact (hno _ _ _ hop).elim
          · rw [if_pos hq]; exact hgo
        · cases h
def evDraw (P : Program) (E : FuncId → List AV → Option AV) (ops : Array Oper) : List (Nat × Oper) → List (Nat × Nat) → ES → Option ES
  | [], _, s => some s
  | (i, o) :: l, rds, s => match dynCB ops i o rds (wrOf o s.ρ) with
    | true => match evX P E ops o s with
      | some (v, H, n) => evDraw P E ops l (addRd i rds (rdOf o s.ρ)) (s.put o.dst v H n)
      | none => none
    | false => none
theorem evDraw_ok {C : Cx} {E : FuncId → List AV → Option AV} (hE : C.E = toE E) {ops : Array Oper} {kf : St → Prop} : ∀ (l : List (Nat × Oper)) (rds : List (Nat × Nat)) (s s' : ES), evDraw C.P E ops l rds s = some s' → kf s'.st → WX C kf ops l rds s.st
  | [], rds, s, s', h, hk => by cases h; exact hk
  | (i, o) :: l, rds, s, s', h, hk => by
    simp only [evDraw] at h
    split at h
    · rename_i hdy
      split at h
      · rename_i v H n he
        obtain ⟨r, q0, q1, q2, q3, q4⟩ := evX_ok hE he
        have := evDraw_ok hE l _ _ _ h hk
        rw [ES.put_st] at this
        simp only [WX, ES.st] at this ⊢
        rw [q0]
        refine ⟨?_, q1, ?_⟩
        · unfold dynCB at hdy
          cases hw : wrOf o s.ρ with
          | none => trivial
          | some l0 => rw [hw] at hdy; exact dynB_ok hdy
        · simp only [q2, q3, q4]; exact this
      · cases h
    · cases h

/-! ### Frames -/
structure EF where
  f : FuncId
  N : Nat
  rs : List ResultVar
  keep : List Nat
  ro : Option Nat
  n0 : Nat
def evRes (P : Program) (s : ES) : ResultVar → Option AV
  | .tmp t => some (look s.ρ t)
  | .cell a t => match bLoad (tyOf P t) (look s.ρ a) (lget s.H) with
    | true => some (sLoad (tyOf P t) (look s.ρ a) (lget s.H) s.n).v
    | false => none
def evRet (P : Program) (rs : List ResultVar) (s : ES) : Option AV :=
  match rs with
  | [r] => evRes P s r
  | rs => match allS (rs.map (evRes P s)) with
    | some l => some (.tup l)
    | none => none
def evGC (n0 : Nat) (v : AV) (H : LH) (n : Nat) : ER :=
  match scB n0 4 v && (lcut n0 H).all (fun p => scObB n0 p.2) with
  | true => some (v, lcut n0 H, n0)
  | false => match Nat.ble n0 n with
    | true => some (v, H, n)
    | false => none
def evRetR (F : EF) (l : Nat) (j : Option Code) (s : ES) : ER :=
  match lget s.H l with
  | some (.loop _ _ ρ f N ps asg body) => evGC F.n0 (.d (.bool j.isNone)) (lset s.H l (.loop (if j.isNone then .ready else .done) j ρ f N ps asg body)) s.n
  | _ => none
def evEnd (P : Program) (F : EF) (j : Option Code) (s : ES) : ER :=
  match F.ro with
  | none => match evRet P F.rs s with
    | some v => evGC F.n0 v s.H s.n
    | none => none
  | some l => evRetR F l j s
def evEndX (F : EF) (j : Option Code) (s : ES) : ER :=
  match F.ro with
  | none => none
  | some l => evRetR F l j s
def isBusy : LoopState → Bool
  | .busy => true
  | _ => false
theorem isBusy_ok {st : LoopState} (h : isBusy st = false) : st ≠ .busy := fun e => by rw [e] at h; cases h
def evYield (P : Program) (keeps : FuncId → List Nat) (run : EF → List Item → ES → ER) : Yielder := fun l args H n =>
  match lget H l with
  | some (.loop .ready _ ρ fi N ps asg body) => match P.funcs[fi]? with
    | some fn => match Nat.beq fn.ntmps N && okCode N asg && okCode N body && ps.toList.all (fun p => Nat.blt p N) && Nat.beq args.length ps.size with
      | true => run ⟨fi, N, fn.results.toList, keeps fi, some l, n⟩ [.code asg, .beginRound, .code body] ⟨roundρ ps.toList args ρ, H, n⟩
      | false => none
    | none => none
  | _ => none
def evK (P : Program) (keeps : FuncId → List Nat) (call : Caller) (E : FuncId → List AV → Option AV) : Nat → EF → List Item → ES → ER
  | 0, _, _, _ => none
  | _ + 1, F, [], s => evEnd P F none s
  | f + 1, F, .code .skip :: k, s => evK P keeps call E f F k s
  | f + 1, F, .code (.seq a b) :: k, s => evK P keeps call E f F (.code a :: .code b :: k) s
  | f + 1, F, .code (.cond c a b) :: k, s => match ev s.ρ c with
    | .d (.bool true) => evK P keeps call E f F (.code a :: k) s
    | .d (.bool false) => evK P keeps call E f F (.code b :: k) s
    | _ => none
  | f + 1, F, .code (.block id c) :: k, s => evK P keeps call E f F (.code c :: .inBlock id :: k) s
  | f + 1, F, .code (.loop c) :: k, s => evK P keeps call E f F (.inLoop c :: k) s
  | f + 1, F, .code (.exit id) :: k, s => match exitTo id k with
    | some k' => evK P keeps call E f F k' s
    | none => evEndX F (some (.exit id)) s
  | f + 1, F, .code (.scope c) :: k, s => evK P keeps call E f F (.code c :: .inScope c :: k) s
  | f + 1, F, .code (.label _) :: k, s => evK P keeps call E f F k s
  | f + 1, F, .code (.goto l) :: k, s => match gotoIn l k with
    | some k' => evK P keeps call E f F k' s
    | none => none
  | _ + 1, F, .code .ret :: _, s => evEnd P F (some .ret) s
  | f + 1, F, .beginRound :: k, s => match F.ro with
    | none => none
    | some l => match lget s.H l with
      | some (.loop .ready pend ρ g N ps asg body) => evK P keeps call E f F k ⟨s.ρ, lset s.H l (.loop .busy pend ρ g N ps asg body), s.n⟩
      | _ => none
  | f + 1, F, .code (.rangeFunc fo ps asg body) :: k, s => match F.ro with
    | some _ => none
    | none => match ev s.ρ fo with
      | .fn (.func g) first cap => match call g (first ++ .yld s.n :: cap) ((s.n, .loop .ready none s.ρ F.f F.N ps asg body) :: s.H) (s.n + 1) with
        | some (_, H', n') => match lget H' s.n with
          | some (.loop st pend _ _ _ _ _ _) => match isBusy st, okP F.N pend with
            | false, true => evK P keeps call E f F (pendK k pend) ⟨s.ρ, ldel H' s.n, n'⟩
            | _, _ => none
          | _ => none
        | none => none
      | _ => none
  | f + 1, F, .code (.region _ ops false) :: k, s => match evRegion call (evYield P keeps (evK P keeps call E f)) P ops (numbered 0 ops.toList) s with
    | some s' => evK P keeps call E f F k ⟨prune F.keep s'.ρ, s'.H, s'.n⟩
    | none => none
  | f + 1, F, .code (.region _ ops true) :: k, s => match evDraw P E ops (numbered 0 ops.toList) [] s with
    | some s' => evK P keeps call E f F k ⟨prune F.keep s'.ρ, s'.H, s'.n⟩
    | none => none
  | f + 1, F, .inBlock _ :: k, s => evK P keeps call E f F k s
  | f + 1, F, .inScope _ :: k, s => evK P keeps call E f F k s
  | f + 1, F, .inLoop c :: k, s => evK P keeps call E f F (.code c :: .inLoop c :: k) s
  | _ + 1, _, _, _ => none

/-! #### what it says holds -/
structure FOK (C : Cx) (F : EF) : Prop where
  f : C.f = F.f
  N : C.N = F.N
  rs : C.rs = F.rs
  ro : C.ro.map (·.2) = F.ro
  n0 : C.n0 = F.n0
theorem evGC_fin {C : Cx} {F : EF} (hF : FOK C F) {s : St} {H : LH} {n : Nat} {v v' : AV} {H' : LH} {n' : Nat} (hs : s.h = lget H) (hn : s.n = n) (h : evGC F.n0 v H n = some (v', H', n')) (hw : WFh s.h s.n) (hv : Sc s.n v) (hk : C.K v' (lget H') n') : Fin C s v := by
  unfold evGC at h
  split at h
  · rename_i hb
    cases h
    simp only [Bool.and_eq_true] at hb
    obtain ⟨h1, h2⟩ := hb
    have hcut : Cut s.h (lget (lcut F.n0 H)) F.n0 := fun l ob hl => by
      rw [lget_lcut] at hl
      split at hl
      · rename_i hlt; rw [hs]; exact ⟨hl, hlt⟩
      · cases hl
    refine ⟨_, _, by rw [hF.n0]; exact Nat.le_refl _, hcut, fun l ob hl => ⟨(hcut l ob hl).2, ?_⟩, scB_ok 4 v h1, hk⟩
    have : ∀ (G : LH), (G.all fun p => scObB F.n0 p.2) = true → ∀ l ob, lget G l = some ob → ScOb F.n0 ob := fun G => by
      induction G with
      | nil => intro _ l ob h; cases h
      | cons p r ih =>
        obtain ⟨k, o⟩ := p
        intro h l ob hl
        simp only [List.all_cons, Bool.and_eq_true] at h
        simp only [lget] at hl
        split at hl
        · cases hl; exact scObB_ok h.1
        · exact ih h.2 l ob hl
    exact this _ h2 l ob hl
  · split at h
    · rename_i hb
      cases h
      have hb := ble_ok hb
      subst hn
      exact ⟨s.h, s.n, by rw [hF.n0]; exact hb, Cut.refl _ _ hw, hw, hv, by rw [hs]; exact hk⟩
    · cases h
theorem evRes_ok {C : Cx} {s : ES} {r : ResultVar} {v : AV} (h : evRes C.P s r = some v) : (resOne C s.st r).1 ∧ (resOne C s.st r).2 = v := by
  cases r with
  | tmp t => cases h; exact ⟨trivial, rfl⟩
  | cell a t =>
    simp only [evRes] at h
    split at h
    · rename_i hb
      cases h
      exact ⟨bLoad_ok hb, rfl⟩
    · cases h
theorem evRet_ok {C : Cx} {s : ES} {v : AV} (h : evRet C.P C.rs s = some v) (hk : ∀ L a w, Rel L C.N s.st a w → Fin C s.st v) : ∀ L a w, Rel L C.N s.st a w → Ret C s.st := by
  intro L a w hr
  have hfin := hk L a w hr
  unfold evRet at h
  unfold Ret
  split at h
  · rename_i r hrs
    rw [hrs]
    obtain ⟨q1, q2⟩ := evRes_ok h
    exact ⟨q1, by rw [q2]; exact hfin⟩
  · rename_i hne
    split at h
    · rename_i l hl
      cases h
      obtain ⟨q1, q2⟩ := allS_spec hl
      have hpt : ∀ i r, C.rs[i]? = some r → (resOne C s.st r).1 ∧ l[i]? = some (resOne C s.st r).2 := fun i r hi => by
        have hil : i < l.length := by rw [q1]; simp; exact (List.getElem?_eq_some_iff.1 hi).1
        have := q2 i _ (List.getElem?_eq_getElem hil)
        rw [List.getElem?_map, hi] at this
        simp only [Option.map_some, Option.some.injEq] at this
        obtain ⟨z1, z2⟩ := evRes_ok this
        exact ⟨z1, by rw [List.getElem?_eq_getElem hil, z2]⟩
      have hmap : C.rs.map (fun r => (resOne C s.st r).2) = l := by
        apply List.ext_getElem?
        intro i
        rw [List.getElem?_map]
        cases hi : C.rs[i]? with
        | none =>
          have : C.rs.length ≤ i := by simpa using hi
          rw [List.getElem?_eq_none (by rw [q1]; simpa using this)]; rfl
        | some r => rw [(hpt i r hi).2]; rfl
      split
      · rename_i r hrs; exact (hne r hrs).elim
      · refine ⟨fun r hr => ?_, by rw [hmap]; exact hfin⟩
        obtain ⟨i, hi⟩ := List.getElem?_of_mem hr
        exact (hpt i r hi).1
    · cases h
theorem Sc_ret {C : Cx} {s : ES} {v : AV} (h : evRet C.P C.rs s = some v) {L : Link} {a : Act} {w : World} (hr : Rel L C.N s.st a w) : Sc s.n v := by
  have one : ∀ r v, evRes C.P s r = some v → Sc s.n v := fun r v h => by
    obtain ⟨q1, q2⟩ := evRes_ok h
    obtain ⟨x, _, hx⟩ := res_run hr r q1
    rw [q2] at hx
    exact hx.sc hr.good.fresh
  unfold evRet at h
  split at h
  · exact one _ _ h
  · split at h
    · rename_i l hl
      cases h
      obtain ⟨q1, q2⟩ := allS_spec hl
      refine .tup _ fun c hc => ?_
      obtain ⟨i, hi⟩ := List.getElem?_of_mem hc
      have := q2 i c hi
      rw [List.getElem?_map] at this
      cases hq : C.rs[i]? with
      | none => rw [hq] at this; cases this
      | some r => rw [hq] at this; exact one r c (by simpa using this)
    · cases h
theorem evRetR_ok {C : Cx} {F : EF} (hF : FOK C F) {l : Nat} {j : Option Code} {s : ES} {v : AV} {H : LH} {n : Nat} (h : evRetR F l j s = some (v, H, n)) (hk : C.K v (lget H) n) : ∀ L a w, Rel L C.N s.st a w → RetR C l j s.st := by
  intro L a w hr
  have hwf := hr.good.wf
  unfold evRetR at h
  unfold RetR
  split at h
  · rename_i st pend ρ f N ps asg body hl
    have hl' : s.st.h l = some (.loop st pend ρ f N ps asg body) := hl
    rw [hl']
    simp only
    refine evGC_fin hF (H := lset s.H l _) (lget_lset _ _ _).symm rfl h ?_ (.d _) hk
    refine hwf.upd (hwf l _ hl').1 fun ob e => ?_
    cases e
    exact (hwf l _ hl').2
  · cases h
theorem evEnd_ok {C : Cx} {F : EF} (hF : FOK C F) {j : Option Code} {s : ES} {v : AV} {H : LH} {n : Nat} (h : evEnd C.P F j s = some (v, H, n)) (hk : C.K v (lget H) n) : ∀ L a w, Rel L C.N s.st a w → RetA C j s.st := by
  intro L a w hr
  unfold evEnd at h
  unfold RetA
  have hro := hF.ro
  cases hc : C.ro with
  | none =>
    rw [hc] at hro
    rw [← hro] at h
    simp only [Option.map_none] at h
    split at h
    · rename_i v' hv
      rw [← hF.rs] at hv
      exact evRet_ok hv (fun L a w hr => evGC_fin hF rfl rfl h hr.good.wf (Sc_ret hv hr) hk) L a w hr
    · cases h
  | some rl =>
    rw [hc] at hro
    rw [← hro] at h
    exact evRetR_ok hF h hk L a w hr
theorem evEndX_ok {C : Cx} {F : EF} (hF : FOK C F) {j : Option Code} {s : ES} {v : AV} {H : LH} {n : Nat} (h : evEndX F j s = some (v, H, n)) (hk : C.K v (lget H) n) : ∀ L a w, Rel L C.N s.st a w → RetX C j s.st := by
  intro L a w hr
  unfold evEndX at h
  unfold RetX
  have hro := hF.ro
  cases hc : C.ro with
  | none => rw [hc] at hro; rw [← hro] at h; cases h
  | some rl =>
    rw [hc] at hro
    rw [← hro] at h
    exact evRetR_ok hF h hk L a w hr

theorem validL_num (ops : Array Oper) : validL ops (numbered 0 ops.toList) := by simpa using validL_numbered ops.toList 0 [] rfl
theorem evK_ok {P : Program} {keeps : FuncId → List Nat} {call : Caller} {E : FuncId → List AV → Option AV} (hc : CallOK P call) (hE : EOK P (toE E)) (hm : P.follows .mixedOrders = true) :
    ∀ (f : Nat) (F : EF) (k : List Item) (s : ES) (v : AV) (H : LH) (n : Nat), evK P keeps call E f F k s = some (v, H, n) → ∀ C : Cx, C.P = P → C.E = toE E → FOK C F → C.K v (lget H) n → G C k s.st := by
  intro f
  induction f with
  | zero => intro F k s v H n h; cases h
  | succ f ih =>
    intro F k s v H n h C hP hCE hF hK hok
    have hy : YieldOK P (evYield P keeps (evK P keeps call E f)) := fun l as H n v H' n' h K hK => by
      unfold evYield at h
      split at h
      · rename_i pend ρ fi N ps asg body hl
        split at h
        · rename_i fn hfn
          split at h
          · rename_i hb
            simp only [Bool.and_eq_true] at hb
            obtain ⟨⟨⟨⟨b1, b2⟩, b3⟩, b4⟩, b5⟩ := hb
            refine enterRound (E := toE E) hfn (Nat.eq_of_beq_eq_true b1) rfl hE hm b2 b3 (keeps fi) hl (fun p hp => blt_ok (List.all_eq_true.1 b4 p hp)) (Nat.eq_of_beq_eq_true b5) fun C r c1 c9 c2 c3 c4 c5 c6 c7 c8 _ _ _ => ?_
            exact ih _ _ _ _ _ _ h C c1 c7 ⟨c9, c2, c3, by rw [c8]; rfl, c5⟩ (by rw [c6]; exact hK)
          · cases h
        · cases h
      · cases h
    subst hP
    unfold evK at h
    split at h
    · rename_i q; cases q
    · exact fun L a w hx hr cs => Sem.fin (evEnd_ok hF h hK L a w hr) L a w hx hr cs
    · rename_i q
      cases q
      simp only [todoOK, okItem, okCode, Bool.and_eq_true] at hok
      exact Sem.skip (ih _ _ _ _ _ _ h C rfl hCE hF hK hok.2)
    · rename_i q
      cases q
      simp only [todoOK, okItem, okCode, Bool.and_eq_true] at hok
      exact Sem.seq (ih _ _ _ _ _ _ h C rfl hCE hF hK (by simp only [todoOK, okItem, Bool.and_eq_true]; exact ⟨hok.1.1, hok.1.2, hok.2⟩))
    · rename_i q
      cases q
      simp only [todoOK, okItem, okCode, Bool.and_eq_true] at hok
      split at h
      · rename_i hcv
        exact Sem.cond (t := true) hcv (ih _ _ _ _ _ _ h C rfl hCE hF hK (by simp only [todoOK, okItem, Bool.and_eq_true]; exact ⟨hok.1.1, hok.2⟩))
      · rename_i hcv
        exact Sem.cond (t := false) hcv (ih _ _ _ _ _ _ h C rfl hCE hF hK (by simp only [todoOK, okItem, Bool.and_eq_true]; exact ⟨hok.1.2, hok.2⟩))
      · cases h
    · rename_i q
      cases q
      simp only [todoOK, okItem, okCode, Bool.and_eq_true] at hok
      exact Sem.block (ih _ _ _ _ _ _ h C rfl hCE hF hK (by simp only [todoOK, okItem, Bool.and_eq_true]; exact ⟨hok.1, trivial, hok.2⟩))
    · rename_i q
      cases q
      exact Sem.loop' (ih _ _ _ _ _ _ h C rfl hCE hF hK (by simpa only [todoOK, okItem, okCode] using hok))
    · rename_i q
      cases q
      simp only [todoOK, okItem, okCode, Bool.and_eq_true] at hok
      split at h
      · rename_i k' hk'; exact Sem.exit hk' (ih _ _ _ _ _ _ h C rfl hCE hF hK (okExit _ _ hok.2 hk'))
      · rename_i hk'; exact fun L a w hx hr cs => Sem.exitOut hk' (evEndX_ok hF h hK L a w hr) L a w hx hr cs
    · rename_i q
      cases q
      simp only [todoOK, okItem, okCode, Bool.and_eq_true] at hok
      exact Sem.scope (ih _ _ _ _ _ _ h C rfl hCE hF hK (by simp only [todoOK, okItem, Bool.and_eq_true]; exact ⟨hok.1, hok.1, hok.2⟩))
    · rename_i q
      cases q
      simp only [todoOK, okItem, okCode, Bool.and_eq_true] at hok
      exact Sem.label (ih _ _ _ _ _ _ h C rfl hCE hF hK hok.2)
    · rename_i q
      cases q
      simp only [todoOK, okItem, okCode, Bool.and_eq_true] at hok
      split at h
      · rename_i k' hk'; exact Sem.goto hk' (ih _ _ _ _ _ _ h C rfl hCE hF hK (okGoto _ _ hok.2 hk'))
      · cases h
    · rename_i q
      cases q
      exact fun L a w hx hr cs => Sem.ret (evEnd_ok hF h hK L a w hr) L a w hx hr cs
    · rename_i q
      cases q
      simp only [todoOK, okItem, Bool.true_and] at hok
      split at h
      · cases h
      · rename_i l hl
        split at h
        · rename_i hlo
          have hro := hF.ro
          rw [hl] at hro
          cases hc : C.ro with
          | none => rw [hc] at hro; cases hro
          | some rl =>
            obtain ⟨r, l'⟩ := rl
            rw [hc] at hro
            simp only [Option.map_some, Option.some.injEq] at hro
            subst hro
            have := ih _ _ _ _ _ _ h C rfl hCE hF hK hok
            unfold ES.st at this
            simp only [lget_lset] at this
            exact Sem.beginRound (s := ⟨_, _, _⟩) hc hlo this
        · cases h
    · rename_i q
      cases q
      simp only [todoOK, Bool.and_eq_true] at hok
      split at h
      · cases h
      · rename_i hro0
        have hro := hF.ro
        rw [hro0] at hro
        have hro : C.ro = none := by cases hc : C.ro with
          | none => rfl
          | some x => rw [hc] at hro; cases hro
        split at h
        · rename_i g first cap hfo
          split at h
          · rename_i v' H' n' hcall
            split at h
            · rename_i st pend _ _ _ _ _ _ hlo
              split at h
              · rename_i hb1 hb2
                refine RF_sound (s := ⟨_, _, _⟩) hok.2 ?_
                unfold RF
                rw [hfo]
                simp only
                refine ⟨hro, ?_⟩
                rw [hF.f, hF.N]
                refine hc _ _ _ _ _ _ _ hcall _ ?_
                unfold RFK
                rw [hlo]
                simp only
                refine ⟨isBusy_ok hb1, by rw [hF.N]; exact hb2, ?_⟩
                have := ih _ _ _ _ _ _ h C rfl hCE hF hK
                unfold ES.st at this
                simp only [lget_ldel] at this
                exact this
              · cases h
            · cases h
          · cases h
        · cases h
    · rename_i q
      cases q
      simp only [todoOK, okItem, okCode, Bool.and_eq_true, Bool.not_false, Bool.true_or] at hok
      split at h
      · rename_i s' hs'
        refine Sem.region ?_
        have hk' := ih _ _ _ _ _ _ h C rfl hCE hF hK hok.2
        have := evRegion_ok (k := _) hc hy hok.1.1 _ _ _ (validL_num _) hs' (Sem.prune (s := s'.st) _ hk')
        rw [numbered_map, ← List.range_eq_range'] at this
        simpa using this
      · cases h
    · rename_i q
      cases q
      simp only [todoOK, okItem, okCode, Bool.and_eq_true, Bool.not_true, Bool.false_or] at hok
      split at h
      · rename_i s' hs'
        have hk' := ih _ _ _ _ _ _ h C rfl hCE hF hK hok.2
        exact Sem.draw hok.1.2 hok.1.1 (evDraw_ok hCE _ _ _ _ hs' (Sem.prune (s := s'.st) _ hk'))
      · cases h
    · rename_i q
      cases q
      simp only [todoOK, okItem, Bool.true_and] at hok
      exact Sem.inBlock (ih _ _ _ _ _ _ h C rfl hCE hF hK hok)
    · rename_i q
      cases q
      simp only [todoOK, okItem, Bool.and_eq_true] at hok
      exact Sem.inScope (ih _ _ _ _ _ _ h C rfl hCE hF hK hok.2)
    · rename_i q
      cases q
      simp only [todoOK, okItem, Bool.and_eq_true] at hok
      exact Sem.inLoop (ih _ _ _ _ _ _ h C rfl hCE hF hK (by simp only [todoOK, okItem, Bool.and_eq_true]; exact ⟨hok.1, hok.1, hok.2⟩))
    · cases h

/-! ### Calls -/
def isNless (as : List AV) : Bool := as.all (scB 0 4)
def evE (call : Caller) : FuncId → List AV → Option AV := fun f as =>
  match isNless as with
  | true => match call f as [] 0 with
    | some (v, H, _) => fz 6 (lget H) v
    | none => none
  | false => none
/-- What is known of some calls. -/
def MemoOK (P : Program) (M : FuncId → List AV → Option AV) : Prop := ∀ f as v, M f as = some v → ∀ (h : AHeap) (n : Nat) (K : AV → AHeap → Nat → Prop), K v h n → ACall P f as h n K
def noMemo : FuncId → List AV → Option AV := fun _ _ => none
theorem noMemo_ok (P : Program) : MemoOK P noMemo := fun _ _ _ h => by cases h
def evF (P : Program) (keeps : FuncId → List Nat) (m steps : Nat) (M : FuncId → List AV → Option AV) : Nat → Caller
  | 0 => fun _ _ _ _ => none
  | d + 1 => fun f args H n => match M f args with
   | some v => some (v, H, n)
   | none => match Nat.blt f m with
    | false => none
    | true => match P.funcs[f]? with
      | none => none
      | some fn => match fn.body with
        | none => none
        | some c => match Nat.ble args.length fn.ntmps with
          | true => evK P keeps (evF P keeps m steps M d) (evE (evF P keeps m steps M d)) steps ⟨f, fn.ntmps, fn.results.toList, keeps f, none, n⟩ [.code c] ⟨argsρ 0 args, H, n⟩
          | false => none
def namesOK (P : Program) (m : Nat) : Bool := (P.funcs.toList.take m).all fun fn => !(fn.name == "runtime.NumGoroutine") && (match fn.body with | some c => okCode fn.ntmps c | none => true)
theorem evE_ok {P : Program} {call : Caller} (hc : CallOK P call) : EOK P (toE (evE call)) := by
  refine ⟨fun f as p v h _ h' n K hK => ?_⟩
  unfold toE evE at h
  split at h
  · rename_i y hy
    cases h
    split at hy
    · rename_i hn
      split at hy
      · rename_i v' H n' hcall
        refine ACall.frame (fun x hx => scB_ok 4 x (List.all_eq_true.1 hn x hx)) ?_ hK
        exact hc _ _ _ _ _ _ _ hcall _ ⟨_, hy⟩
      · cases hy
    · cases hy
  · cases h
theorem evF_ok {P : Program} {keeps : FuncId → List Nat} {m steps : Nat} {M : FuncId → List AV → Option AV} (hM : MemoOK P M) (hm : P.follows .mixedOrders = true) (hn : namesOK P m = true) : ∀ d, CallOK P (evF P keeps m steps M d) := by
  intro d
  induction d with
  | zero => intro f as H n v H' n' h; cases h
  | succ d ih =>
    intro f as H n v H' n' h K hK
    unfold evF at h
    split at h
    · rename_i hv; cases h; exact hM _ _ _ hv _ _ _ hK
    split at h
    · cases h
    · rename_i hlt
      split at h
      · cases h
      · rename_i fn hfn
        split at h
        · cases h
        · rename_i c hb
          split at h
          · rename_i hk
            have hall : (fn.name == "runtime.NumGoroutine") = false ∧ okCode fn.ntmps c = true := by
              have hlt := blt_ok hlt
              have : fn ∈ P.funcs.toList.take m := by
                refine List.mem_of_getElem? (i := f) ?_
                rw [List.getElem?_take, if_pos hlt]; simpa using hfn
              have := List.all_eq_true.1 hn fn this
              rw [hb] at this
              simp only [Bool.and_eq_true] at this
              exact ⟨by simpa using this.1, this.2⟩
            refine enter (E := toE (evE (evF P keeps m steps M d))) hfn hall.1 hb rfl rfl (evE_ok ih) hm hall.2 (keeps f) (ble_ok hk) fun C c1 c9 c2 c3 c4 c5 c6 c7 c8 _ _ => ?_
            exact evK_ok ih (evE_ok ih) hm _ _ _ _ _ _ _ h C c1 c7 ⟨c9, c2, c3, by rw [c8]; rfl, c5⟩ (by rw [c6]; exact hK)
          · cases h
/-- A closed call, reckoned out. -/
theorem Pure.eval {P : Program} {f : FuncId} {args : List AV} {v : AV} (keeps : FuncId → List Nat) (m steps d : Nat) {M : FuncId → List AV → Option AV} (hM : MemoOK P M) (hm : P.follows .mixedOrders = true) (hn : namesOK P m = true) (h : evE (evF P keeps m steps M d) f args = some v) : Pure P f args v := fun _ _ _ hk =>
  (evE_ok (evF_ok (keeps := keeps) (m := m) (steps := steps) hM hm hn d)).ok f args True v (by unfold toE; rw [h]) trivial _ _ _ hk
end Go.AM
