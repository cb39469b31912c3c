/- An abstract machine over the model: the walk, as a function that is reckoned out; what it says holds of the model. -/
import Derived.Test.YtdocdnmbmikefaaAmM
set_option linter.unusedVariables false
set_option linter.unusedSimpArgs false
namespace Go.AM

def withPre (p : Prop) (r : R1) : R1 := ⟨p ∧ r.pre, r.v, r.h, r.n⟩

def sBuiltin (P : Program) (e : Operand → AV) (h : AHeap) (n : Nat) (b : Builtin) (args : List Operand) (ts : List TypeId) : R1 :=
  match b, args, ts with
  | .len, [x], [t] => withPre (tkLen (tyOf P t).k (e x) = true) (sLen (e x) h n)
  | .max, [x, y], _ => sMM true (e x) (e y) h n
  | .min, [x, y], _ => sMM false (e x) (e y) h n
  | .append, [s, x], [t, t2] => sAppend P (tyOf P t) (tyOf P t2) (e s) (e x) h n
  | _, _, _ => bad h n

def step (P : Program) (e : Operand → AV) (h : AHeap) (n : Nat) : Op → R1
  | .move x => ⟨True, e x, h, n⟩
  | .assign x => ⟨True, e x, h, n⟩
  | .pick c x y => sPick (e c) (e x) (e y) h n
  | .alloc t => sAlloc (tyOf P t) h n
  | .box _ x => sBox (e x) h n
  | .build t parts => sBuild P (tyOf P t) (partsE e parts) h n
  | .buildSlice t len parts => sBuildSlice P (tyOf P t) len (partsE e parts) h n
  | .load t x => sLoad (tyOf P t) (e x) h n
  | .store t x y => sStore (tyOf P t) (e x) (e y) h n
  | .nilCheck x => sNil (e x) h n
  | .binOp op t x y _ => sBin2 P op t (e x) (e y) h n
  | .makeMap t none => sMakeMap P t h n
  | .lookup t x k ok => sLookup P t (e x) (e k) ok h n
  | .mapUpdate t x k v => sMapUpdate P t (e x) (e k) (e v) h n
  | .unOp op _ x => sUn op (e x) h n
  | .convert s t x => sConv (tyOf P s) (tyOf P t) (e x) h n
  | .makeFunc f xs ys => ⟨True, .fn f (xs.toList.map e) (ys.toList.map e), h, n⟩
  | .makeSlice t l c => sMakeSlice P (tyOf P t) (e l) (e c) h n
  | .slice t x lo hi mx => withPre (match (tyOf P t).k with | .slice el => (tyOf P el).k ≠ .other | _ => False) (sSlice P (tyOf P t) (e x) (lo.map e) (hi.map e) (mx.map e) h n)
  | .fieldAddr t x f => sFieldAddr (tyOf P t) (e x) f h n
  | .field t x f => sField (tyOf P t) (e x) f h n
  | .indexAddr t x i => sIdxAddr P (tyOf P t) (e x) (e i) h n
  | .extract x i => sExtract (e x) i h n
  | .call ⟨.builtin b, args, ts⟩ => sBuiltin P e h n b args.toList ts.toList
  | _ => bad h n

theorem step_sound {P : Program} {L : Link} {a : Act} {w : World} {o : Oper} {h : AHeap} {n : Nat} {e : Operand → AV} (he : ∀ x, V L (e x) (a.eval x)) (hg : Good L h n w) : Snd P L a w o (step P e h n o.op) := by
  cases ho : o.op with
  | move x => exact snd_move (.inl ho) hg (he x)
  | assign x => exact snd_move (.inr ho) hg (he x)
  | pick c x y => exact snd_pick ho hg (he c) (he x) (he y)
  | alloc t => exact snd_alloc ho hg
  | box t x => exact snd_box ho hg (he x)
  | build t parts => exact snd_build ho hg fun p _ => he p.2
  | buildSlice t len parts => exact snd_buildSlice ho hg fun p _ => he p.2
  | load t x => exact snd_load ho hg (he x)
  | store t x y => exact snd_store ho hg (he x) (he y)
  | nilCheck x => exact snd_nilCheck ho hg (he x)
  | binOp op t x y yt => exact snd_bin2 ho hg (he x) (he y)
  | makeMap t r => cases r with | none => exact snd_makeMap ho hg | some r => exact Snd.bad
  | lookup t x k ok => exact snd_lookup ho hg (he x) (he k)
  | mapUpdate t x k v => exact snd_mapUpdate ho hg (he x) (he k) (he v)
  | unOp op t x => exact snd_un ho hg (he x)
  | convert s t x => exact snd_conv ho hg (he x)
  | makeFunc f xs ys => exact snd_makeFunc ho hg he
  | makeSlice t l c => exact snd_makeSlice ho hg (he l) (he c)
  | slice t x lo hi mx =>
    intro hp
    obtain ⟨h1, h2⟩ := hp
    exact snd_slice ho (fun el hk => by rw [hk] at h1; exact h1) hg (he x) (fun z _ => he z) (fun z _ => he z) h2
  | fieldAddr t x f => exact snd_fieldAddr ho hg (he x)
  | field t x f => exact snd_field ho hg (he x)
  | indexAddr t x i => exact snd_idxAddr ho hg (he x) (he i)
  | extract x i => exact snd_extract ho hg (he x)
  | call c =>
    obtain ⟨ce, args, ts⟩ := c
    cases ce with
    | builtin b =>
      obtain ⟨args⟩ := args
      obtain ⟨ts⟩ := ts
      simp only [step, sBuiltin]
      split
      · exact snd_len ho hg (he _)
      · exact snd_max ho hg (he _) (he _)
      · exact snd_min ho hg (he _) (he _)
      · exact snd_append ho hg (he _) (he _)
      · exact Snd.bad
    | value f => exact Snd.bad
    | invoke f m => exact Snd.bad
  | _ => exact Snd.bad

/-- Does it leave memory as it is? -/
def isQuiet : Op → Bool
  | .alloc _ => false
  | .box _ _ => false
  | .buildSlice _ _ _ => false
  | .store _ _ _ => false
  | .makeSlice _ _ _ => false
  | .makeMap _ _ => false
  | .mapUpdate _ _ _ _ => false
  | .call ⟨.builtin .len, _, _⟩ => true
  | .call ⟨.builtin .max, _, _⟩ => true
  | .call ⟨.builtin .min, _, _⟩ => true
  | .call _ => false
  | _ => true

theorem quiet_step {P : Program} {e : Operand → AV} {h : AHeap} {n : Nat} {op : Op} (hq : isQuiet op = true) : (step P e h n op).h = h ∧ (step P e h n op).n = n := by
  cases op <;> simp only [isQuiet] at hq <;> first
    | exact ⟨rfl, rfl⟩
    | (cases hq; done)
    | skip
  case build t parts => simp only [step, sBuild]; repeat' split
                        all_goals exact ⟨rfl, rfl⟩
  case load t x => simp only [step, sLoad]; repeat' split
                   all_goals exact ⟨rfl, rfl⟩
  case nilCheck x => simp only [step, sNil]; repeat' split
                     all_goals exact ⟨rfl, rfl⟩
  case binOp op t x y yt => simp only [step, sBin2, sBin]; repeat' split
                            all_goals exact ⟨rfl, rfl⟩
  case lookup t x k ok => simp only [step, sLookup]; repeat' split
                          all_goals exact ⟨rfl, rfl⟩
  case unOp op t x => simp only [step, sUn]; repeat' split
                      all_goals exact ⟨rfl, rfl⟩
  case convert s t x => simp only [step, sConv]; repeat' split
                        all_goals exact ⟨rfl, rfl⟩
  case slice t x lo hi mx => simp only [step, withPre, sSlice]; repeat' split
                             all_goals exact ⟨rfl, rfl⟩
  case fieldAddr t x f => simp only [step, sFieldAddr]; repeat' split
                          all_goals exact ⟨rfl, rfl⟩
  case field t x f => simp only [step, sField]; repeat' split
                      all_goals exact ⟨rfl, rfl⟩
  case indexAddr t x f => simp only [step, sIdxAddr]; repeat' split
                          all_goals exact ⟨rfl, rfl⟩
  case extract x f => simp only [step, sExtract]; repeat' split
                      all_goals exact ⟨rfl, rfl⟩
  case call c =>
    obtain ⟨ce, args, ts⟩ := c
    cases ce with
    | builtin b =>
      cases b <;> simp only at hq <;> first
        | (cases hq; done)
        | (simp only [step, sBuiltin, withPre, sLen, sMM, bad]; repeat' split)
      all_goals first | exact ⟨rfl, rfl⟩ | contradiction
    | value f => cases hq
    | invoke f m => cases hq

/-- Two ways of reading the operands that agree on an operation's own. -/
theorem step_congr {P : Program} {e e' : Operand → AV} {h : AHeap} {n : Nat} {op : Op} (he : ∀ x, x ∈ op.operands.toList → e x = e' x) : step P e h n op = step P e' h n op := by
  have hparts : ∀ parts : Array (Nat × Operand), (∀ x, x ∈ parts.toList.map (·.2) → e x = e' x) → partsE e parts = partsE e' parts := fun parts hp => by
    simp only [partsE]
    refine List.map_congr_left fun p hm => ?_
    rw [hp p.2 (List.mem_map.2 ⟨p, hm, rfl⟩)]
  have hmap : ∀ xs : Array Operand, (∀ x, x ∈ xs.toList → e x = e' x) → xs.toList.map e = xs.toList.map e' := fun xs hp => List.map_congr_left hp
  cases op <;> simp only [Op.operands] at he <;> try rfl
  case move x => simp only [step]; rw [he x (by simp)]
  case assign x => simp only [step]; rw [he x (by simp)]
  case pick c x y => simp only [step]; rw [he c (by simp), he x (by simp), he y (by simp)]
  case box t x => simp only [step]; rw [he x (by simp)]
  case build t parts => simp only [step]; rw [hparts parts (by simpa using he)]
  case buildSlice t len parts => simp only [step]; rw [hparts parts (by simpa using he)]
  case load t x => simp only [step]; rw [he x (by simp)]
  case store t x y => simp only [step]; rw [he x (by simp), he y (by simp)]
  case nilCheck x => simp only [step]; rw [he x (by simp)]
  case binOp op t x y yt => simp only [step]; rw [he x (by simp), he y (by simp)]
  case lookup t x k ok => simp only [step]; rw [he x (by simp), he k (by simp)]
  case mapUpdate t x k v => simp only [step]; rw [he x (by simp), he k (by simp), he v (by simp)]
  case makeMap t r => cases r <;> rfl
  case unOp op t x => simp only [step]; rw [he x (by simp)]
  case convert s t x => simp only [step]; rw [he x (by simp)]
  case makeFunc f xs ys => simp only [step]; rw [hmap xs (fun x hx => he x (by simp; left; simpa using hx)), hmap ys (fun x hx => he x (by simp; right; simpa using hx))]
  case makeSlice t l c => simp only [step]; rw [he l (by simp), he c (by simp)]
  case slice t x lo hi mx =>
    simp only [step]
    have h1 : ∀ z : Option Operand, (∀ y, z = some y → e y = e' y) → z.map e = z.map e' := fun z hz => by cases z with | none => rfl | some y => simp [hz y rfl]
    rw [he x (by simp), h1 lo (fun y hy => he y (by simp [hy])), h1 hi (fun y hy => he y (by simp [hy])), h1 mx (fun y hy => he y (by simp [hy]))]
  case fieldAddr t x f => simp only [step]; rw [he x (by simp)]
  case field t x f => simp only [step]; rw [he x (by simp)]
  case indexAddr t x i => simp only [step]; rw [he x (by simp), he i (by simp)]
  case extract x i => simp only [step]; rw [he x (by simp)]
  case call c =>
    obtain ⟨ce, args, ts⟩ := c
    cases ce with
    | builtin b =>
      obtain ⟨args⟩ := args
      obtain ⟨ts⟩ := ts
      simp only [step]
      have hm : ∀ x, x ∈ args → e x = e' x := fun x hx => he x (by simp [Call.operands]; exact hx)
      simp only [sBuiltin]
      split
      · rw [hm _ (by simp)]
      · rw [hm _ (by simp), hm _ (by simp)]
      · rw [hm _ (by simp), hm _ (by simp)]
      · rw [hm _ (by simp), hm _ (by simp)]
      · rfl
    | value f => rfl
    | invoke f m => rfl
end Go.AM
