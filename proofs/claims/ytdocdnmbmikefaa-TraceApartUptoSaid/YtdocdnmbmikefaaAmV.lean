/- An abstract machine over the model: the walk of code, reckoned out. -/
import Derived.Test.YtdocdnmbmikefaaAmF
set_option linter.unusedVariables false
set_option linter.unusedSimpArgs false
namespace Go.AM
def okP (N : Nat) : Option Code → Bool
  | none => true
  | some c => okCode N c
def pendK (k : List Item) : Option Code → List Item
  | none => k
  | some c => .code c :: k
/-- What is to be shown when a loop over a function is over. -/
def RFK (C : Cx) (k : List Item) (s : St) (h' : AHeap) (n' : Nat) : Prop :=
  match h' s.n with
  | some (.loop st pend _ _ _ _ _ _) => st ≠ .busy ∧ okP C.N pend = true ∧ G C (pendK k pend) ⟨s.ρ, upd h' s.n none, n'⟩
  | _ => False
def RF (C : Cx) (k : List Item) (f : Operand) (ps : Array Tmp) (asg body : Code) (s : St) : AV → Prop
  | .fn (.func g) first cap => C.ro = none ∧ ACall C.P g (first ++ .yld s.n :: cap) (upd s.h s.n (some (.loop .ready none s.ρ C.f C.N ps asg body))) (s.n + 1) (fun _ h' n' => RFK C k s h' n')
  | _ => False
theorem RF_sound {C : Cx} {k : List Item} {f : Operand} {ps : Array Tmp} {asg body : Code} {s : St} (hok : todoOK C.N k = true) (h : RF C k f ps asg body s (ev s.ρ f)) : Sem C (.code (.rangeFunc f ps asg body) :: k) s := by
  unfold RF at h
  split at h
  · rename_i g first cap hv
    obtain ⟨hro, h⟩ := h
    refine Sem.rangeFunc hro hv (ACall.mono (by simpa using h) fun v h' n' hK => ?_)
    unfold RFK at hK
    split at hK
    · rename_i hl
      rw [hl]
      obtain ⟨h1, h2, h3⟩ := hK
      rename_i st pend _ _ _ _ _ _
      refine ⟨h1, ?_⟩
      cases pend with
      | none => exact h3 hok
      | some c => exact h3 (by show (okCode C.N c && todoOK C.N k) = true; rw [hok, show okCode C.N c = true from h2]; rfl)
    · exact hK.elim
  · exact h.elim
def Wp (kf : St → Prop) (keep : List Nat) (s : St) : Prop := kf (s.prune keep)
def W : Nat → Cx → List Item → St → Prop
  | 0, C, k, s => G C k s
  | _ + 1, C, [], s => RetA C none s
  | f + 1, C, .code .skip :: k, s => W f C k s
  | f + 1, C, .code (.seq a b) :: k, s => W f C (.code a :: .code b :: k) s
  | f + 1, C, .code (.cond c a b) :: k, s => match ev s.ρ c with
    | .d (.bool t) => (t = true → W f C (.code a :: k) s) ∧ (t = false → W f C (.code b :: k) s)
    | _ => False
  | f + 1, C, .code (.block id c) :: k, s => W f C (.code c :: .inBlock id :: k) s
  | _ + 1, C, .code (.loop c) :: k, s => G C (.inLoop c :: k) s
  | f + 1, C, .code (.exit id) :: k, s => match exitTo id k with
    | some k' => W f C k' s
    | none => RetX C (some (.exit id)) s
  | f + 1, C, .code (.scope c) :: k, s => W f C (.code c :: .inScope c :: k) s
  | f + 1, C, .code (.label _) :: k, s => W f C k s
  | f + 1, C, .code (.goto l) :: k, s => match gotoIn l k with
    | some k' => W f C k' s
    | none => False
  | _ + 1, C, .code .ret :: _, s => RetA C (some .ret) s
  | f + 1, C, .beginRound :: k, s => sBegin C (W f C k) s
  | _ + 1, C, .code (.rangeFunc f ps asg body) :: k, s => RF C k f ps asg body s (ev s.ρ f)
  | f + 1, C, .code (.region _ ops false) :: k, s => WR C (W f C k) ops k (numbered 0 ops.toList) s
  | f + 1, C, .code (.region _ ops true) :: k, s => WX C (Wp (W f C k) C.keep) ops (numbered 0 ops.toList) [] s
  | f + 1, C, .inBlock _ :: k, s => W f C k s
  | f + 1, C, .inScope _ :: k, s => W f C k s
  | _ + 1, C, k, s => G C k s

theorem W_sound : ∀ (f : Nat) (C : Cx) (k : List Item) (s : St), W f C k s → G C k s := by
  intro f
  induction f with
  | zero => intro C k s h; simpa only [W] using h
  | succ f ih =>
    intro C k s h hok
    unfold W at h
    split at h
    · rename_i q; cases q
    · exact Sem.fin h
    · rename_i f' q
      cases q
      simp only [todoOK, okItem, okCode, Bool.and_eq_true] at hok
      exact Sem.skip (ih _ _ _ h hok.2)
    · rename_i f' q
      cases q
      simp only [todoOK, okItem, okCode, Bool.and_eq_true] at hok
      exact Sem.seq (ih _ _ _ h (by simp only [todoOK, okItem, Bool.and_eq_true]; exact ⟨hok.1.1, hok.1.2, hok.2⟩))
    · rename_i f' c a b k q
      cases q
      simp only [todoOK, okItem, okCode, Bool.and_eq_true] at hok
      split at h
      · rename_i t hc
        refine Sem.cond hc ?_
        cases t with
        | true => exact ih _ _ _ (h.1 rfl) (by simp only [todoOK, okItem, Bool.and_eq_true, if_true]; exact ⟨hok.1.1, hok.2⟩)
        | false => exact ih _ _ _ (h.2 rfl) (by simp only [todoOK, okItem, Bool.and_eq_true, Bool.false_eq_true, if_false]; exact ⟨hok.1.2, hok.2⟩)
      · exact h.elim
    · rename_i f' q
      cases q
      simp only [todoOK, okItem, okCode, Bool.and_eq_true] at hok
      exact Sem.block (ih _ _ _ h (by simp only [todoOK, okItem, Bool.and_eq_true]; exact ⟨hok.1, trivial, hok.2⟩))
    · exact Sem.loop' (h (by simpa only [todoOK, okItem, okCode] using hok))
    · rename_i f' id k q
      cases q
      simp only [todoOK, okItem, okCode, Bool.and_eq_true] at hok
      split at h
      · rename_i k' hk; exact Sem.exit hk (ih _ _ _ h (okExit _ _ hok.2 hk))
      · rename_i hk; exact Sem.exitOut hk h
    · rename_i f' q
      cases q
      simp only [todoOK, okItem, okCode, Bool.and_eq_true] at hok
      exact Sem.scope (ih _ _ _ h (by simp only [todoOK, okItem, Bool.and_eq_true]; exact ⟨hok.1, hok.1, hok.2⟩))
    · rename_i f' q
      cases q
      simp only [todoOK, okItem, okCode, Bool.and_eq_true] at hok
      exact Sem.label (ih _ _ _ h hok.2)
    · rename_i f' l k q
      cases q
      simp only [todoOK, okItem, okCode, Bool.and_eq_true] at hok
      split at h
      · rename_i k' hk; exact Sem.goto hk (ih _ _ _ h (okGoto _ _ hok.2 hk))
      · exact h.elim
    · exact Sem.ret h
    · rename_i f' k q
      cases q
      simp only [todoOK, okItem, Bool.true_and] at hok
      refine sBegin_sound ?_
      unfold sBegin at h ⊢
      split at h
      · exact h.elim
      · split at h
        · exact ih _ _ _ h hok
        · exact h.elim
    · rename_i f' fo ps asg body k q
      simp only [todoOK, Bool.and_eq_true] at hok
      exact RF_sound hok.2 h
    · rename_i f' id ops k q
      cases q
      simp only [todoOK, okItem, okCode, Bool.and_eq_true, Bool.not_false, Bool.true_or] at hok
      obtain ⟨ops⟩ := ops
      refine Sem.region ?_
      have hv : validL (⟨ops⟩ : Array Oper) (numbered 0 ops) := by simpa using validL_numbered ops 0 [] rfl
      have := WR_sound (fun s hs => ih _ _ s hs hok.2) hok.1.1 hok.2 _ _ hv h
      rw [numbered_map, ← List.range_eq_range'] at this
      exact this
    · rename_i f' id ops k q
      cases q
      simp only [todoOK, okItem, okCode, Bool.and_eq_true, Bool.not_true, Bool.false_or] at hok
      exact Sem.draw hok.1.2 hok.1.1 (WX.mono (fun s hs => Sem.prune _ (ih _ _ _ hs hok.2)) _ _ _ h)
    · rename_i f' q
      cases q
      simp only [todoOK, okItem, Bool.true_and] at hok
      exact Sem.inBlock (ih _ _ _ h hok)
    · rename_i f' q
      cases q
      simp only [todoOK, okItem, Bool.and_eq_true] at hok
      exact Sem.inScope (ih _ _ _ h hok.2)
    · exact h hok
theorem G.run {C : Cx} {k : List Item} {s : St} (f : Nat) (h : W f C k s) : G C k s := W_sound f C k s h
theorem G.loop {C : Cx} {c : Code} {k : List Item} {s : St} (f : Nat) (h : W f C (.code c :: .inLoop c :: k) s) : G C (.inLoop c :: k) s := fun hok => by
  simp only [todoOK, okItem, Bool.and_eq_true] at hok
  exact Sem.inLoop (W_sound f C _ s h (by simp only [todoOK, okItem, Bool.and_eq_true]; exact ⟨hok.1, hok.1, hok.2⟩))
theorem SemR.run {C : Cx} {ops : Array Oper} {k : List Item} {l : List (Nat × Oper)} {s : St} (f : Nat) (h : WR C (W f C k) ops k l s) : SemR C ops k l s :=
  fun hv hd hok => WR_sound (fun s hs => W_sound f C k s hs hok) hd hok l s hv h
end Go.AM
