/- An abstract machine over the model: loops by an invariant, weaker states, ends. -/
import Derived.Test.YtdocdnmbmikefaaAmV
set_option linter.unusedVariables false
set_option linter.unusedSimpArgs false
namespace Go.AM

theorem upd_at (h : AHeap) (l : Nat) (o : Option AOb) (k : Nat) : AM.upd h l o k = if k = l then o else h k := rfl
theorem imp_ft (p : Prop) : (false = true → p) = True := eq_true fun h => by cases h
theorem imp_tf (p : Prop) : (true = false → p) = True := eq_true fun h => by cases h
theorem imp_tt (p : Prop) : (true = true → p) = p := propext ⟨fun h => h rfl, fun h _ => h⟩
theorem imp_ff (p : Prop) : (false = false → p) = p := propext ⟨fun h => h rfl, fun h _ => h⟩
structure Weaker (C : Cx) (s s' : St) : Prop where
  n : C.n0 ≤ s'.n
  ρ : ∀ p, p ∈ s'.ρ → Sub (look s.ρ p.1) p.2 ∧ Sc s'.n p.2
  c : Cut s.h s'.h s'.n
  w : WFh s'.h s'.n
theorem G.weaker {C : Cx} {k : List Item} {s : St} (s' : St) (h : Weaker C s s') (hg : G C k s') : G C k s := G.weak s' h.n h.ρ h.c h.w hg

/-- A loop, by what holds at its head: of which 'μ' falls. -/
theorem G.inv {C : Cx} {c : Code} {k : List Item} {s : St} {β : Type} (F : β → St) (μ : β → Nat) (P : β → Prop) (b0 : β) (hP : P b0) (hw : Weaker C s (F b0))
    (step : ∀ b, P b → (∀ b' s', μ b' < μ b → P b' → Weaker C s' (F b') → G C (.inLoop c :: k) s') → G C (.inLoop c :: k) (F b)) : G C (.inLoop c :: k) s := by
  refine G.weaker _ hw ?_
  suffices H : ∀ m b, μ b < m → P b → G C (.inLoop c :: k) (F b) from H (μ b0 + 1) b0 (by omega) hP
  intro m
  induction m with
  | zero => intro b h; omega
  | succ m ih =>
    intro b hb hPb
    exact step b hPb fun b' s' h1 h2 h3 => G.weaker _ h3 (ih b' (by omega) h2)

/-! ### memory that is kept -/
def CutX (s t : AHeap) (n : Nat) (ex : List Nat) : Prop := ∀ l ob, l ∉ ex → t l = some ob → s l = some ob ∧ l < n
theorem CutX.start {s t : AHeap} {n : Nat} (h : CutX s t n []) : Cut s t n := fun l ob hl => h l ob (by simp) hl
theorem CutX.upd {s t : AHeap} {n l : Nat} {o : Option AOb} {ex : List Nat} (h1 : l ∈ ex ∨ (s l = o ∧ l < n)) (h2 : CutX s t n (l :: ex)) : CutX s (AM.upd t l o) n ex := by
  intro k ob hk hl
  by_cases e : k = l
  · subst e
    rw [upd_same] at hl
    rcases h1 with h1 | ⟨h1, h3⟩
    · exact absurd h1 hk
    · exact ⟨by rw [h1, hl], h3⟩
  · rw [upd_ne _ _ e] at hl
    exact h2 k ob (by simp [e, hk]) hl
/-- Below a name two memories are alike, but for some names. -/
def AgreeX (s t : AHeap) (n : Nat) (ex : List Nat) : Prop := ∀ l, l < n → l ∉ ex → s l = t l
theorem AgreeX.refl (t : AHeap) (n : Nat) (ex : List Nat) : AgreeX t t n ex := fun _ _ _ => rfl
theorem AgreeX.upd {s t : AHeap} {n l : Nat} {o : Option AOb} {ex : List Nat} (h1 : l ∈ ex ∨ n ≤ l) (h2 : AgreeX s t n ex) : AgreeX (AM.upd s l o) t n ex := fun k hk he => by
  have : k ≠ l := fun e => by subst e; rcases h1 with h1 | h1; exact he h1; omega
  rw [upd_ne _ _ this]; exact h2 k hk he
theorem CutX.base {s t : AHeap} {n n0 : Nat} {ex : List Nat} (hw : WFh t n0) (hn : n0 ≤ n) (ha : AgreeX s t n0 ex) : CutX s t n ex := fun l ob he hl => by
  have := (hw l ob hl).1
  exact ⟨by rw [ha l this he, hl], by omega⟩
theorem WFh.put {t : AHeap} {n l : Nat} {ob : AOb} (h1 : l < n) (h2 : ScOb n ob) (h3 : WFh t n) : WFh (AM.upd t l (some ob)) n := fun k o hk => by
  simp only [AM.upd] at hk
  split at hk
  · rename_i e; cases hk; subst e; exact ⟨h1, h2⟩
  · exact h3 k o hk
theorem WFh.drop {t : AHeap} {n l : Nat} (h3 : WFh t n) : WFh (AM.upd t l none) n := fun k o hk => by
  simp only [AM.upd] at hk
  split at hk
  · cases hk
  · exact h3 k o hk
theorem ScOb_cells (n v sz : Nat) (rows : List (List AV)) : ScOb n (.cells v sz rows) ↔ ∀ row, row ∈ rows → ∀ x, x ∈ row → Sc n x := Iff.rfl
theorem ScOb_map (n : Nat) (pin g : Bool) (kn : Nat) (es : List (List Int × AV)) : ScOb n (.map pin g kn es) ↔ ∀ p, p ∈ es → Sc n p.2 := Iff.rfl
theorem Sub_self (x : AV) : Sub x x ↔ True := ⟨fun _ => trivial, fun _ => Sub.refl x⟩
theorem Sub_any (x : AV) : Sub x .any ↔ True := ⟨fun _ => trivial, fun _ => Sub.any x⟩
theorem Sub_nilS : Sub (.d .nilS) (.d (.ro [])) ↔ True := ⟨fun _ => trivial, fun _ => Sub.nilS⟩

theorem weaker_mk {C : Cx} {ρ ρ' : List (Nat × AV)} {h h' : AHeap} {n n' : Nat} (hn : C.n0 ≤ n') (hρ : ∀ p, p ∈ ρ' → Sub (look ρ p.1) p.2 ∧ Sc n' p.2) (hc : CutX h h' n' []) (hw : WFh h' n') : Weaker C ⟨ρ, h, n⟩ ⟨ρ', h', n'⟩ := ⟨hn, hρ, hc.start, hw⟩
theorem wrap_id (n : Int) (h1 : -9223372036854775808 ≤ n) (h2 : n < 9223372036854775808) : IntKind.i64.wrap n = n := by
  unfold IntKind.wrap
  have e1 : IntKind.i64.bits = 64 := rfl
  have e2 : IntKind.i64.signed = true := rfl
  rw [e1, e2]
  simp only [Bool.true_and, decide_eq_true_eq, ge_iff_le]
  have e3 : ((2 : Int) ^ 64) = 18446744073709551616 := by decide
  have e4 : ((2 : Int) ^ (64 - 1)) = 9223372036854775808 := by decide
  rw [e3, e4]
  split <;> omega
theorem wrap_succ (i : Nat) (h : i < 4611686018427387904) : IntKind.i64.wrap ((i : Int) + 1) = ((i + 1 : Nat) : Int) := by
  rw [wrap_id _ (by omega) (by omega)]; omega
/-- The end of a call that keeps what was there, but for what it says. -/
theorem Fin.at {C : Cx} {s : St} {v : AV} {K : AV → AHeap → Nat → Prop} (h : AHeap) (n : Nat) (hn : C.n0 ≤ n) (hK : C.K = K) (hc : Cut s.h h n) (hw : WFh h n) (hs : Sc n v) (hk : K v h n) : Fin C s v :=
  ⟨h, n, hn, hc, hw, hs, by rw [hK]; exact hk⟩
end Go.AM
