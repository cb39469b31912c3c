/- An abstract machine over the model: maps whose keys are whole numbers, or flat structs and arrays of these. -/
import Derived.Test.YtdocdnmbmikefaaAmE
import Derived.MapKept
set_option linter.unusedVariables false
set_option linter.unusedSimpArgs false
namespace Go.AM

def intsOf : List AV → Option (List Int)
  | [] => some []
  | .d (.int .i64 n) :: r => (intsOf r).map (n :: ·)
  | _ => none
def keyAV : AV → Option (Bool × List Int)
  | .d (.int .i64 n) => some (false, [n])
  | .agg cs => (intsOf cs).map fun l => (true, l)
  | _ => none
def keyTI (P : Program) (t : TypeId) : Option (Bool × Nat) :=
  match P.underlying t with
  | some (.int .i64) => some (false, 1)
  | _ => match ekAgg P t with
    | some ks => if ks.all (· == .i) then some (true, ks.length) else none
    | none => none

def mfind : List (List Int × AV) → List Int → Nat → Option (Nat × AV)
  | [], _, _ => none
  | (k, v) :: r, ks, i => if k = ks then some (i, v) else mfind r ks (i + 1)
def mget (es : List (List Int × AV)) (ks : List Int) : Option AV := (mfind es ks 0).map (·.2)
def mset (es : List (List Int × AV)) (ks : List Int) (v : AV) : List (List Int × AV) :=
  match mfind es ks 0 with
  | some (i, _) => es.set i (ks, v)
  | none => es ++ [(ks, v)]
def mdel (es : List (List Int × AV)) (ks : List Int) : List (List Int × AV) :=
  match mfind es ks 0 with
  | some (i, _) => es.eraseIdx i
  | none => es

theorem mfind_spec (es : List (List Int × AV)) (ks : List Int) (i j : Nat) (v : AV) (h : mfind es ks i = some (j, v)) : i ≤ j ∧ es[j - i]? = some (ks, v) := by
  induction es generalizing i with
  | nil => simp [mfind] at h
  | cons p r ih =>
    obtain ⟨k, u⟩ := p
    simp only [mfind] at h
    split at h
    · rename_i e; cases h; subst e; exact ⟨Nat.le_refl _, by simp⟩
    · obtain ⟨h1, h2⟩ := ih (i + 1) h
      refine ⟨by omega, ?_⟩
      rw [show j - i = (j - (i + 1)) + 1 by omega]; simpa using h2

theorem intsOf_spec : ∀ (cs : List AV) (l : List Int), intsOf cs = some l → cs = l.map fun n => .d (.int .i64 n)
  | [], l, h => by simp [intsOf] at h; subst h; rfl
  | x :: r, l, h => by
    unfold intsOf at h
    split at h
    · rename_i hq; cases hq
    · rename_i n r' hq
      cases hq
      rw [Option.map_eq_some_iff] at h
      obtain ⟨l', h1, rfl⟩ := h
      rw [intsOf_spec r l' h1]; rfl
    · cases h

theorem V_ints {L : Link} {l : List Int} {us : Array Value} (h : V L (.agg (l.map fun n => .d (.int .i64 n))) (.agg us)) : us = (l.map (Value.int .i64)).toArray := by
  cases h with
  | agg _ _ h1 h2 =>
    apply Array.ext
    · simp at h1 ⊢; exact h1
    · intro i hi hi2
      have hil : i < l.length := by simpa using hi2
      have := h2 i (.d (.int .i64 l[i])) (by simp [hil])
      have := V_int this
      simp [Array.getD_eq_getD_getElem?, hi] at this
      simpa using this
theorem keyAV_spec {L : Link} {x : AV} {u : Value} {g : Bool} {ks : List Int} (h : keyAV x = some (g, ks)) (hx : V L x u) : u = encKey g ks ∧ (g = false → ks.length = 1) := by
  unfold keyAV at h
  split at h
  · cases h; exact ⟨by rw [V_int hx]; rfl, fun _ => rfl⟩
  · rename_i cs
    rw [Option.map_eq_some_iff] at h
    obtain ⟨l, h1, h2⟩ := h
    cases h2
    have h3 := intsOf_spec _ _ h1
    rw [h3] at hx
    refine ⟨?_, fun h => by cases h⟩
    generalize hu : u = u' at hx
    have hx' := hx
    cases hx with
    | agg _ us q1 q2 => rw [V_ints hx']; rfl
  · cases h

section
variable {P : Program} {L : Link}

theorem V_keyAgg (L : Link) (ks : List Int) : V L (.agg (ks.map fun n => .d (.int .i64 n))) (encKey true ks) := by
  refine .agg _ _ (by simp) fun j c hj => ?_
  rw [List.getElem?_map] at hj
  cases hk : ks[j]? with
  | none => rw [hk] at hj; cases hj
  | some n => rw [hk] at hj; cases hj; simp [Array.getD_eq_getD_getElem?, hk]; exact .d (.int _ _)
theorem eqF_ints : ∀ (es : List EK) (xs ys : List Int), (∀ k, k ∈ es → k = .i) → xs.length = es.length → ys.length = es.length → (eqF es (xs.map fun n => .d (.int .i64 n)) (ys.map fun n => .d (.int .i64 n))).1 ∧ (eqF es (xs.map fun n => .d (.int .i64 n)) (ys.map fun n => .d (.int .i64 n))).2 = decide (xs = ys)
  | [], [], [], _, _, _ => ⟨trivial, rfl⟩
  | e :: es, x :: xs, y :: ys, h, h1, h2 => by
    obtain ⟨q1, q2⟩ := eqF_ints es xs ys (fun k hk => h k (by simp [hk])) (by simpa using h1) (by simpa using h2)
    have he := h e (by simp)
    subst he
    refine ⟨⟨rfl, q1⟩, ?_⟩
    simp only [List.map_cons, eqF, eqC, q2]
    by_cases hxy : x = y <;> simp [hxy]
  | [], _ :: _, _, _, h1, _ => by simp at h1
  | [], [], _ :: _, _, _, h2 => by simp at h2
  | _ :: _, [], _, _, h1, _ => by simp at h1
  | _ :: _, _ :: _, [], _, _, h2 => by simp at h2

theorem check_fields (em : Bool) (d : Nat) (us : Array Value) (w : World) : ∀ (fs : List Field) (ks : List EK) (k : Nat), ekFields P k fs = some ks → k + ks.length ≤ us.size →
    (forIn (m := Go.Sem) fs PUnit.unit fun f _ => (if f.name ≠ "_" then (do Instr.checkKey em (d + 1) f.type (← part f.type us f.offset); pure (ForInStep.yield PUnit.unit)) else pure (ForInStep.yield PUnit.unit))).run P w = .ok PUnit.unit w
  | [], ks, k, _, _ => by simp
  | f :: fs, ks, k, h, hs => by
    simp only [ekFields] at h
    split at h
    · rename_i e he
      split at h
      · rename_i hc
        rw [Option.map_eq_some_iff] at h
        obtain ⟨ks', hk, rfl⟩ := h
        have r1 := run_part_plain (P := P) w (ek_plain he) (xs := us) (off := k) (getD_some (by simp at hs; omega))
        have r2 : (Instr.checkKey em (d + 1) f.type (us.getD k undef)).run P w = .ok () w := by
          unfold ekOf at he
          unfold Instr.checkKey
          split at he <;> rename_i hu <;> first | (simp only [Sem.run_bind, run_underlying hu, Result.andThen_ok]; rfl) | cases he
        have ih := check_fields em d us w fs ks' (k + 1) hk (by simp at hs; omega)
        rw [List.forIn_cons]
        simp only [ne_eq, hc.1, not_false_eq_true, if_true, Sem.run_bind, hc.2, r1, Result.andThen_ok, r2, Sem.run_pure]
        exact ih
      · cases h
    · cases h
theorem check_items (em : Bool) (d : Nat) {t : TypeId} {e : EK} (he : ekOf P t = some e) (us : Array Value) (w : World) {i : TypeInfo} (hi : P.info? t = some i) (hc : P.cellsOf t = 1) : ∀ (m k : Nat), k + m ≤ us.size →
    (forIn (m := Go.Sem) (List.range' k m) PUnit.unit fun i _ => (do Instr.checkKey em (d + 1) t (← part t us (i * (← sizeOf t))); pure (ForInStep.yield PUnit.unit))).run P w = .ok PUnit.unit w
  | 0, k, _ => by simp
  | m + 1, k, hs => by
    have r1 := run_part_plain (P := P) w (ek_plain he) (xs := us) (off := k) (getD_some (by omega))
    have r2 : (Instr.checkKey em (d + 1) t (us.getD k undef)).run P w = .ok () w := by
      unfold ekOf at he
      unfold Instr.checkKey
      split at he <;> rename_i hu <;> first | (simp only [Sem.run_bind, run_underlying hu, Result.andThen_ok]; rfl) | cases he
    have ih := check_items em d he us w hi hc m (k + 1) (by omega)
    rw [List.range'_succ, List.forIn_cons]
    simp only [Sem.run_bind, run_sizeOf w hi, Result.andThen_ok, hc, Nat.mul_one, r1, r2, Sem.run_pure]
    exact ih

theorem ek_info {t : TypeId} {k : EK} (h : ekOf P t = some k) : ∃ i, P.info? t = some i := by
  cases hq : P.underlying t with
  | none => unfold ekOf at h; rw [hq] at h; cases h
  | some d => exact info_of_underlying hq

theorem check_run {t : TypeId} {g : Bool} {kn : Nat} (ht : keyTI P t = some (g, kn)) {ks : List Int} (hl : ks.length = kn) (em : Bool) (w : World) : (Instr.checkKey em 10000 t (encKey g ks)).run P w = .ok () w := by
  unfold keyTI at ht
  split at ht
  · rename_i hu
    cases ht
    rw [show 10000 = 9999 + 1 from rfl, Instr.checkKey]
    simp only [Sem.run_bind, run_underlying hu, Result.andThen_ok, encKey, Bool.false_eq_true, if_false]
    rfl
  · split at ht
    · rename_i es he
      split at ht
      · rename_i hall
        cases ht
        unfold ekAgg at he
        rw [show 10000 = 9998 + 1 + 1 from rfl, Instr.checkKey]
        split at he
        · rename_i fs hu
          split at he
          · cases he
          · have := check_fields em 9998 (ks.map (Value.int .i64)).toArray w fs.toList es 0 he (by simp [hl])
            simp only [Sem.run_bind, run_underlying hu, Result.andThen_ok, encKey, if_true]
            rw [← Array.forIn_toList]
            refine (congrArg (fun z => Result.andThen z _) this).trans ?_
            simp
        · rename_i n e hu
          split at he
          · rename_i k hk
            split at he
            · rename_i hc
              cases he
              obtain ⟨i, hi⟩ := ek_info hk
              have := check_items em 9998 hk (ks.map (Value.int .i64)).toArray w hi hc n 0 (by simp at hl ⊢; omega)
              simp only [Sem.run_bind, run_underlying hu, Result.andThen_ok, encKey, if_true]
              simp only [Std.Legacy.Range.forIn_eq_forIn_range', Std.Legacy.Range.size, Nat.sub_zero, Nat.add_one_sub_one, Nat.div_one]
              refine (congrArg (fun z => Result.andThen z _) this).trans ?_
              simp
            · cases he
          · cases he
        · cases he
      · cases ht
    · cases ht

theorem find_asking {t : TypeId} {es : List EK} (he : ekAgg P t = some es) (hall : ∀ k, k ∈ es → k = .i) (w : World) {ks : List Int} (hl : ks.length = es.length) : ∀ (l : List (List Int × AV)) (ents : List MapEntry) (i : Nat), l.length = ents.length →
    (∀ (j : Nat) p e, l[j]? = some p → ents[j]? = some e → e.key = encKey true p.1 ∧ V L p.2 e.val ∧ p.1.length = es.length) →
    ∃ r, (Instr.findAsking t (encKey true ks) ents i).run P w = .ok r w ∧ (match mfind l ks i with | none => r = none | some (j, v) => ∃ x, r = some (j, x) ∧ V L v x)
  | [], [], i, _, _ => ⟨none, rfl, rfl⟩
  | p :: l, e :: ents, i, h1, h2 => by
    obtain ⟨k, v⟩ := p
    obtain ⟨q1, q2, q3⟩ := h2 0 _ e rfl rfl
    obtain ⟨z1, z2⟩ := eqF_ints es ks k hall hl q3
    have heq : (Op.equal t (encKey true ks) e.key).run P w = .ok (decide (ks = k)) w := by
      rw [q1, ← z2]
      exact equalIn_agg he (V_keyAgg L ks) (V_keyAgg L k) z1 9998 w
    rw [Instr.findAsking, Sem.run_bind, heq, Result.andThen_ok]
    by_cases hk : ks = k
    · refine ⟨some (i, e.val), by simp [hk], ?_⟩
      simp only [mfind, hk, if_true]
      exact ⟨_, rfl, q2⟩
    · obtain ⟨r, r1, r2⟩ := find_asking he hall w hl l ents (i + 1) (by simpa using h1) (fun j p e h3 h4 => h2 (j + 1) p e (by simpa using h3) (by simpa using h4))
      refine ⟨r, by simpa [hk] using r1, ?_⟩
      simp only [mfind]
      rw [if_neg (fun e => hk e.symm)]
      exact r2
  | [], _ :: _, _, h1, _ => by simp at h1
  | _ :: _, [], _, h1, _ => by simp at h1

theorem find_now (k : Int) : ∀ (l : List (List Int × AV)) (ents : List MapEntry) (i : Nat), l.length = ents.length →
    (∀ (j : Nat) p e, l[j]? = some p → ents[j]? = some e → e.key = encKey false p.1 ∧ V L p.2 e.val ∧ p.1.length = 1) →
    ∃ r, Instr.findNow (.int .i64) (.int .i64 k) ents i = some r ∧ (match mfind l [k] i with | none => r = none | some (j, v) => ∃ x, r = some (j, x) ∧ V L v x)
  | [], [], i, _, _ => ⟨none, rfl, rfl⟩
  | p :: l, e :: ents, i, h1, h2 => by
    obtain ⟨k', v⟩ := p
    obtain ⟨q1, q2, q3⟩ := h2 0 _ e rfl rfl
    match k', q3 with
    | [m], _ =>
      rw [Instr.findNow, q1]
      simp only [encKey, Bool.false_eq_true, if_false, List.headD_cons, Instr.sameNow, if_true]
      by_cases hk : k = m
      · subst hk
        refine ⟨some (i, e.val), by simp, ?_⟩
        simp only [mfind, if_true]
        exact ⟨_, rfl, q2⟩
      · obtain ⟨r, r1, r2⟩ := find_now k l ents (i + 1) (by simpa using h1) (fun j p e h3 h4 => h2 (j + 1) p e (by simpa using h3) (by simpa using h4))
        refine ⟨r, by rw [show (k == m) = false by simp [hk]]; exact r1, ?_⟩
        simp only [mfind]
        rw [if_neg (fun e => hk (by simpa using e.symm))]
        exact r2
  | [], _ :: _, _, h1, _ => by simp at h1
  | _ :: _, [], _, h1, _ => by simp at h1

theorem find_run {t : TypeId} {g : Bool} {kn : Nat} (ht : keyTI P t = some (g, kn)) {ks : List Int} (hl : ks.length = kn) {es : List (List Int × AV)} {ents : Array MapEntry} {clock : Nat} (hr : EntsR L g kn es ents clock) (w : World) :
    ∃ r, (Instr.findKey t (encKey g ks) ents.toList).run P w = .ok r w ∧ (match mfind es ks 0 with | none => r = none | some (j, v) => ∃ x, r = some (j, x) ∧ V L v x) := by
  have hents : ∀ (j : Nat) p e, es[j]? = some p → ents.toList[j]? = some e → e.key = encKey g p.1 ∧ V L p.2 e.val ∧ p.1.length = kn := fun j p e h1 h2 =>
    ⟨(hr.ent j p e h1 (by simpa using h2)).1, (hr.ent j p e h1 (by simpa using h2)).2, hr.wid p (List.mem_of_getElem? h1)⟩
  unfold keyTI at ht
  split at ht
  · rename_i hu
    cases ht
    match ks, hl with
    | [k], _ =>
      obtain ⟨r, r1, r2⟩ := find_now (L := L) k es ents.toList 0 (by simp [hr.size]) hents
      exact ⟨r, MapKept.run_findKey hu r1, r2⟩
  · rename_i hnu
    split at ht
    · rename_i ks' he
      split at ht
      · rename_i hall
        cases ht
        have hall' : ∀ k, k ∈ ks' → k = .i := fun k hk => by have := List.all_eq_true.1 hall k hk; simpa using this
        obtain ⟨r, r1, r2⟩ := find_asking (L := L) he hall' w hl es ents.toList 0 (by simp [hr.size]) hents
        refine ⟨r, ?_, r2⟩
        have hagg : ∃ d, P.underlying t = some d ∧ ∀ k v, Instr.sameNow d (.agg k) v = none := by
          unfold ekAgg at he
          split at he
          · rename_i fs hu; exact ⟨_, hu, fun _ _ => rfl⟩
          · rename_i n e hu; exact ⟨_, hu, fun _ _ => rfl⟩
          · cases he
        obtain ⟨d, hu, hnow⟩ := hagg
        unfold Instr.findKey
        rw [Sem.run_bind, run_underlying hu, Result.andThen_ok]
        cases hel : ents.toList with
        | nil =>
          rw [hel] at r1
          simp only [Instr.findNow]
          simpa [Instr.findAsking] using r1
        | cons e l =>
          rw [hel] at r1
          simp only [Instr.findNow, encKey, if_true, hnow]
          simpa [encKey] using r1
      · cases ht
    · cases ht

/-! ### The map objects in memory -/
variable {h : AHeap} {n : Nat} {w : World}
theorem Good.map {l : Nat} {pin g : Bool} {kn : Nat} {es : List (List Int × AV)} (hg : Good L h n w) (hl : h l = some (.map pin g kn es)) : ∃ r ents clock, L.mp l = some r ∧ w.heap[r]? = some (.map ents clock) ∧ EntsR L g kn es ents clock := by
  obtain ⟨own, gh, ho⟩ := hg.obs
  obtain ⟨r, ents, clock, h1, h2, _, _, h3, _⟩ := ho l _ hl
  exact ⟨r, ents, clock, h1, h2, h3⟩

def World.put (w : World) (r : Nat) (o : Obj) : World := { w with heap := w.heap.setIfInBounds r o }
theorem put_at {w : World} {r : Nat} {o o' : Obj} (h : w.heap[r]? = some o) : (World.put w r o').heap[r]? = some o' := by
  have : r < w.heap.size := by
    rcases Nat.lt_or_ge r w.heap.size with h' | h'
    · exact h'
    · rw [Array.getElem?_eq_none h'] at h; cases h
  simp [World.put, Array.getElem?_setIfInBounds, this]
theorem put_ne {w : World} {r b : Nat} {o' : Obj} (h : b ≠ r) : (World.put w r o').heap[b]? = w.heap[b]? := by
  simp only [World.put, Array.getElem?_setIfInBounds]
  rw [if_neg (fun e => h e.symm)]

theorem Good.setMap {l r : Nat} {g : Bool} {kn : Nat} {es es' : List (List Int × AV)} {ents' : Array MapEntry} {clock' : Nat} (hg : Good L h n w) (hl : h l = some (.map false g kn es)) (hr : L.mp l = some r) (he : EntsR L g kn es' ents' clock') :
    Good L (upd h l (some (.map false g kn es'))) n (World.put w r (.map ents' clock')) := by
  obtain ⟨own, gh, ho⟩ := hg.obs
  obtain ⟨r', ents, clock, h1, h2, h3, h4, h5, h6⟩ := ho l _ hl
  rw [hr] at h1
  cases h1
  refine ⟨⟨own, gh, fun k ob hk => ?_⟩, fun b o hb => ?_, hg.fresh, hg.env.put r (.map ents' clock') (fun _ _ _ e => by cases e) rfl rfl rfl rfl⟩
  · simp only [upd] at hk
    split at hk
    · rename_i e
      subst e
      cases hk
      exact ⟨r, ents', clock', hr, put_at h2, h3, h4, he, fun h => by cases h⟩
    · rename_i e
      refine (ho k ob hk).world fun b o hb hbo => ⟨?_, hb⟩
      rw [put_ne (fun e' => e (by rw [← hb, e', h3]))]
      exact hbo
  · rw [put_ne (fun e' => by rw [e'] at hb; rw [h4] at hb; cases hb)]
    exact hg.ro b o hb

def Link.putM (L : Link) (l r : Nat) : Link := { L with mp := fun k => if k = l then some r else L.mp k }
theorem Link.ext_putM {L : Link} {l : Nat} (h : L.mp l = none) (r : Nat) : Ext L (L.putM l r) :=
  ⟨rfl, fun _ _ h => h, fun _ _ _ => rfl, fun _ _ _ h => h, fun k q hk => by
    simp only [Link.putM]
    split
    · rename_i e; rw [e, h] at hk; cases hk
    · exact hk⟩
theorem Good.newMap (hg : Good L h n w) (g : Bool) (kn : Nat) (h1 : g = false → kn = 1) :
    ∃ L', Ext L L' ∧ L'.R = L.R ∧ L'.mp n = some w.heap.size ∧ Good L' (upd h n (some (.map false g kn []))) (n + 1) (w.alloc (.map #[] 0)) := by
  have hx : Ext L (L.putM n w.heap.size) := Link.ext_putM (hg.fresh n (Nat.le_refl _)).2 _
  obtain ⟨own, gh, ho⟩ := hg.obs
  refine ⟨L.putM n w.heap.size, hx, rfl, by simp [Link.putM], ⟨fun b => if b = w.heap.size then n else own b, gh, fun l ob hl => ?_⟩, fun b o hb => heap_alloc_lt w _ (hg.ro b o hb), fun l hl => ?_, hg.env.alloc _ fun _ _ _ e => by cases e⟩
  · simp only [upd] at hl
    split at hl
    · rename_i e
      subst e
      cases hl
      exact ⟨w.heap.size, #[], 0, by simp [Link.putM], heap_alloc_at w _, by simp, (R_lt hg : L.R _ = Option.none), ⟨rfl, fun i p e h => by simp at h, fun p h => by simp at h, h1, by simp, fun e h => by simp at h⟩, fun h => by cases h⟩
    · refine ((ho l ob hl).mono hx rfl (fun _ h => h)).world fun b o eb hb => ⟨heap_alloc_lt w _ hb, ?_⟩
      have hb' : b < w.heap.size := by
        rcases Nat.lt_or_ge b w.heap.size with h' | h'
        · exact h'
        · rw [Array.getElem?_eq_none h'] at hb; cases hb
      show (if b = w.heap.size then n else own b) = l
      rw [if_neg (by omega)]; exact eb
  · have := hg.fresh l (by omega)
    exact ⟨this.1, by simp only [Link.putM]; rw [if_neg (by omega)]; exact this.2⟩

theorem sameBits_key (g : Bool) (ks : List Int) : Instr.sameBits 10000 (encKey g ks) (encKey g ks) = true := by
  cases g with
  | false => simp [encKey, Instr.sameBits]
  | true =>
    rw [show 10000 = 9999 + 1 from rfl]
    simp only [encKey, if_true, Instr.sameBits, beq_self_eq_true, Bool.true_and, List.all_eq_true]
    intro p hp
    obtain ⟨a, b⟩ := p
    have hab : a = b ∧ ∃ n, a = .int .i64 n := by
      rw [List.mem_iff_getElem?] at hp
      obtain ⟨i, hi⟩ := hp
      rw [List.getElem?_zip_eq_some] at hi
      obtain ⟨h1, h2⟩ := hi
      rw [h1] at h2
      cases h2
      refine ⟨rfl, ?_⟩
      simp at h1
      obtain ⟨n, _, rfl⟩ := h1
      exact ⟨n, rfl⟩
    obtain ⟨rfl, n, rfl⟩ := hab
    simp [Instr.sameBits]

theorem EntsR.set {g : Bool} {kn : Nat} {es : List (List Int × AV)} {ents : Array MapEntry} {clock : Nat} (hr : EntsR L g kn es ents clock) {i : Nat} {ks : List Int} {v0 v : AV} (hi : es[i]? = some (ks, v0)) {x : Value} (hv : V L v x) :
    EntsR L g kn (es.set i (ks, v)) (ents.modify i fun e => { e with key := encKey g ks, val := x }) clock := by
  have hil : i < es.length := (List.getElem?_eq_some_iff.1 hi).1
  have hborn : ((ents.modify i fun e => { e with key := encKey g ks, val := x }).toList.map (·.born)) = ents.toList.map (·.born) := by
    apply List.ext_getElem?
    intro j
    simp only [List.getElem?_map, Array.getElem?_toList, Array.getElem?_modify]
    by_cases hij : i = j
    · subst hij
      cases he : ents[i]? <;> simp
    · simp [hij]
  refine ⟨by simp [hr.size], fun j p e h1 h2 => ?_, fun p hp => ?_, hr.one, ?_, fun e he => ?_⟩
  · rw [Array.getElem?_modify] at h2
    rw [List.getElem?_set] at h1
    by_cases hij : i = j
    · subst hij
      simp only [if_true, hil] at h1 h2
      cases h1
      cases he : ents[i]? with
      | none => rw [he] at h2; cases h2
      | some e0 => rw [he] at h2; cases h2; exact ⟨rfl, hv⟩
    · simp only [hij, if_false] at h1 h2
      exact hr.ent j p e h1 h2
  · rcases List.mem_or_eq_of_mem_set hp with h' | h'
    · exact hr.wid p h'
    · rw [h']; exact hr.wid (ks, v0) (List.mem_of_getElem? hi)
  · have := List.pairwise_map.2 hr.born
    rw [← hborn] at this
    exact List.pairwise_map.1 this
  · have : e.born ∈ (ents.modify i fun e => { e with key := encKey g ks, val := x }).toList.map (·.born) := List.mem_map.2 ⟨e, he, rfl⟩
    rw [hborn] at this
    obtain ⟨y, hy, e'⟩ := List.mem_map.1 this
    rw [← e']; exact hr.last y hy
theorem EntsR.push {g : Bool} {kn : Nat} {es : List (List Int × AV)} {ents : Array MapEntry} {clock : Nat} (hr : EntsR L g kn es ents clock) {ks : List Int} (hk : ks.length = kn) {v : AV} {x : Value} (hv : V L v x) :
    EntsR L g kn (es ++ [(ks, v)]) (ents.push { key := encKey g ks, val := x, born := clock }) (clock + 1) := by
  refine ⟨by simp [hr.size], fun j p e h1 h2 => ?_, fun p hp => ?_, hr.one, ?_, fun e he => ?_⟩
  · rw [Array.getElem?_push] at h2
    rw [List.getElem?_append] at h1
    by_cases hj : j < es.length
    · rw [if_pos hj] at h1
      rw [if_neg (by rw [hr.size]; omega)] at h2
      exact hr.ent j p e h1 h2
    · rw [if_neg hj] at h1
      by_cases hj2 : j = ents.size
      · rw [if_pos hj2] at h2
        cases h2
        rw [show j - es.length = 0 by rw [hj2, hr.size]; omega] at h1
        simp at h1
        subst h1
        exact ⟨rfl, hv⟩
      · rw [if_neg hj2] at h2
        have := (Array.getElem?_eq_some_iff.1 h2).1
        rw [hr.size] at this
        omega
  · rcases List.mem_append.1 hp with h' | h'
    · exact hr.wid p h'
    · simp at h'; rw [h']; exact hk
  · rw [Array.toList_push, List.pairwise_append]
    refine ⟨hr.born, by simp, fun a ha b hb => ?_⟩
    simp at hb
    subst hb
    exact hr.last a ha
  · rw [Array.toList_push, List.mem_append] at he
    rcases he with he | he
    · have := hr.last e he; omega
    · simp at he; subst he; simp
end

/-! ### the operations -/
def zvOf (P : Program) (t : TypeId) : Option AV :=
  match (P.info? t).bind (·.zero) with
  | some (.agg us) => some (.agg (us.toList.map constAV))
  | some v => if cellOK (constAV v) then some (constAV v) else none
  | none => none
def sMakeMap (P : Program) (t : TypeId) (h : AHeap) (n : Nat) : R1 :=
  match (tyOf P t).k with
  | .map kt _ => match keyTI P kt with
    | some (g, kn) => ⟨True, .map n, upd h n (some (.map false g kn [])), n + 1⟩
    | none => bad h n
  | _ => bad h n
def lres (ok : Bool) (r : Option AV) (z : AV) : AV := if ok then .tup [r.getD z, .d (.bool r.isSome)] else r.getD z
def sLookup (P : Program) (t : TypeId) (x k : AV) (ok : Bool) (h : AHeap) (n : Nat) : R1 :=
  match (tyOf P t).k, x, keyAV k with
  | .map kt el, .map l, some (g, ks) => match h l, zvOf P el with
    | some (.map _ g' kn es), some z => ⟨keyTI P kt = some (g', kn) ∧ g = g' ∧ ks.length = kn, lres ok (mget es ks) z, h, n⟩
    | _, _ => bad h n
  | _, _, _ => bad h n
def sMapUpdate (P : Program) (t : TypeId) (x k v : AV) (h : AHeap) (n : Nat) : R1 :=
  match (tyOf P t).k, x, keyAV k with
  | .map kt _, .map l, some (g, ks) => match h l with
    | some (.map false g' kn es) => ⟨keyTI P kt = some (g', kn) ∧ g = g' ∧ ks.length = kn, .tup [], upd h l (some (.map false g' kn (mset es ks v))), n⟩
    | _ => bad h n
  | _, _, _ => bad h n

section
variable {P : Program} {L : Link} {a : Act} {w : World} {o : Oper} {h : AHeap} {n : Nat} {e : Operand → AV}
theorem zv_rel {t : TypeId} {z : AV} (L : Link) (hz : zvOf P t = some z) : ∃ v, (∀ w : World, (zeroValue t).run P w = .ok v w) ∧ V L z v := by
  unfold zvOf at hz
  cases hi : P.info? t with
  | none => rw [hi] at hz; cases hz
  | some i =>
    rw [hi] at hz
    simp only [Option.bind_some] at hz
    cases hv : i.zero with
    | none => rw [hv] at hz; cases hz
    | some v =>
      refine ⟨v, fun w => by simp [zeroValue, typeInfo, hi, hv], ?_⟩
      rw [hv] at hz
      split at hz
      · rename_i us hq
        cases hq
        cases hz
        refine .agg _ _ (by simp) fun j c hj => ?_
        rw [List.getElem?_map] at hj
        cases hu : us.toList[j]? with
        | none => rw [hu] at hj; cases hj
        | some u =>
          rw [hu] at hj
          cases hj
          have : us[j]? = some u := by simpa using hu
          simp [Array.getD_eq_getD_getElem?, this]
          exact V_const L u
      · rename_i v' hq
        cases hq
        split at hz
        · cases hz; exact V_const L _
        · cases hz
      · rename_i hq; cases hq
theorem snd_makeMap {t : TypeId} (ho : o.op = .makeMap t none) (hg : Good L h n w) : Snd P L a w o (sMakeMap P t h n) := by
  unfold sMakeMap
  split
  · rename_i kt el hk
    split
    · rename_i g kn hkt
      intro _
      have h1 : g = false → kn = 1 := fun hgf => by
        unfold keyTI at hkt
        split at hkt
        · cases hkt; rfl
        · split at hkt
          · split at hkt
            · cases hkt; cases hgf
            · cases hkt
          · cases hkt
      obtain ⟨L', q1, q2, q3, q4⟩ := hg.newMap g kn h1
      refine ⟨_, .map (some w.heap.size), _, L', ?_, .inl rfl, q1, q2, .map q3, q4⟩
      unfold execOp
      simp only [ho, Option.map_none, Instr.makeMap, Sem.run_bind, Sem.run_pure, Result.andThen_ok, run_newObj]
      rfl
    · exact Snd.bad
  · exact Snd.bad
theorem run_getMap {r : Nat} {es : Array MapEntry} {clock : Nat} (hb : w.heap[r]? = some (.map es clock)) : (getObj r).run P w = .ok (.map es clock) w := by
  simp [getObj, Sem.run, hb]
theorem snd_lookup {t : TypeId} {x k : Operand} {ok : Bool} (ho : o.op = .lookup t x k ok) (hg : Good L h n w) (hx : V L (e x) (a.eval x)) (hk : V L (e k) (a.eval k)) : Snd P L a w o (sLookup P t (e x) (e k) ok h n) := by
  unfold sLookup
  split
  · rename_i kt el l g ks hkk hxe hke
    rw [hxe] at hx
    split
    · rename_i pin g' kn es z hl hz
      refine Snd.quiet hg fun hp => ⟨rfl, rfl, ?_⟩
      obtain ⟨h1, h2, h3⟩ := hp
      subst h2
      obtain ⟨q1, _⟩ := keyAV_spec hke hk
      obtain ⟨r, ents, clock, m1, m2, m3⟩ := hg.map hl
      obtain ⟨zv, z1, z2⟩ := zv_rel L hz
      generalize hxu : a.eval x = u at hx
      cases hx with
      | map hm =>
        rw [m1] at hm
        cases hm
        obtain ⟨fr, f1, f2⟩ := find_run h1 h3 m3 w
        have hc := check_run h1 h3 (P := P) ents.isEmpty w
        rw [← q1] at f1 hc
        have hres : ∃ u, V L ((mget es ks).getD z) u ∧ ((fr = none ∧ u = zv ∧ (mget es ks).isSome = false) ∨ ∃ j, fr = some (j, u) ∧ (mget es ks).isSome = true) := by
          unfold mget
          clear f1
          generalize mfind es ks 0 = mf at f2 ⊢
          cases mf with
          | none => exact ⟨zv, z2, .inl ⟨f2, rfl, rfl⟩⟩
          | some jv =>
            obtain ⟨x', h1, hv⟩ := f2
            exact ⟨x', hv, .inr ⟨_, h1, rfl⟩⟩
        obtain ⟨u, u1, u2⟩ := hres
        have hrun : (Instr.lookup t (.map (some r)) (a.eval k) ok).run P w = .ok (if ok then .tuple #[u, .bool (mget es ks).isSome] else u) w := by
          unfold Instr.lookup
          simp only [Sem.run_bind, run_underlying (ty_map hkk), Result.andThen_ok, run_getMap m2, Sem.run_pure, hc, f1]
          rcases u2 with ⟨rfl, rfl, u3⟩ | ⟨j, rfl, u3⟩
          · simp only [Sem.run_bind, z1, Result.andThen_ok, Sem.run_pure, u3]
          · simp only [Sem.run_bind, Result.andThen_ok, Sem.run_pure, u3]
        refine ⟨if ok then .tuple #[u, .bool (mget es ks).isSome] else u, ?_, ?_⟩
        · unfold execOp
          simp only [ho, hxu, Sem.run_bind, hrun, Result.andThen_ok, Sem.run_pure]
        · unfold lres
          cases ok with
          | false => simpa using u1
          | true =>
            simp only [if_true]
            refine .tup _ _ rfl fun j c hj => ?_
            match j with
            | 0 => simp at hj; subst hj; simpa using u1
            | 1 => simp at hj; subst hj; exact .d (.bool _)
            | j + 2 => simp at hj
    · exact Snd.bad
  · exact Snd.bad
theorem snd_mapUpdate {t : TypeId} {x k v : Operand} (ho : o.op = .mapUpdate t x k v) (hg : Good L h n w) (hx : V L (e x) (a.eval x)) (hk : V L (e k) (a.eval k)) (hv : V L (e v) (a.eval v)) : Snd P L a w o (sMapUpdate P t (e x) (e k) (e v) h n) := by
  unfold sMapUpdate
  split
  · rename_i kt el l g ks hkk hxe hke
    rw [hxe] at hx
    split
    · rename_i g' kn es hl
      intro hp
      obtain ⟨h1, h2, h3⟩ := hp
      subst h2
      obtain ⟨q1, _⟩ := keyAV_spec hke hk
      obtain ⟨r, ents, clock, m1, m2, m3⟩ := hg.map hl
      generalize hxu : a.eval x = u at hx
      cases hx with
      | map hm =>
        rw [m1] at hm
        cases hm
        obtain ⟨fr, f1, f2⟩ := find_run h1 h3 m3 w
        have hc := check_run h1 h3 (P := P) false w
        have hset : ∀ o : Obj, (setObj r o).run P w = .ok () (World.put w r o) := fun o => by simp [setObj, Sem.run, m2, World.put]
        cases hf : mfind es ks 0 with
        | none =>
          rw [hf] at f2
          subst f2
          have hpush := m3.push h3 hv
          have := hg.setMap hl m1 hpush
          refine ⟨.skip, undef, World.put w r (.map (ents.push { key := encKey g ks, val := a.eval v, born := clock }) (clock + 1)), L, ?_, .inr ⟨rfl, rfl⟩, Ext.refl L, rfl, V_undef L, ?_⟩
          rotate_left
          · simp only [mset, hf]
            exact this
          · unfold execOp
            simp only [ho, hxu, Instr.mapUpdate, Sem.run_bind, run_underlying (ty_map hkk), Result.andThen_ok, run_getMap m2, hc, f1, hset, Sem.run_pure, q1]
        | some jv =>
          obtain ⟨j, v0⟩ := jv
          rw [hf] at f2
          obtain ⟨x', rfl, hv0⟩ := f2
          obtain ⟨_, hj⟩ := mfind_spec es ks 0 j v0 hf
          simp only [Nat.sub_zero] at hj
          have hjl : j < ents.size := by rw [m3.size]; exact (List.getElem?_eq_some_iff.1 hj).1
          have hje : ents[j]? = some ents[j] := Array.getElem?_eq_getElem hjl
          have hkey : ents[j].key = encKey g ks := (m3.ent j _ _ hj hje).1
          have hset2 := m3.set hj hv
          have := hg.setMap hl m1 hset2
          refine ⟨.skip, undef, World.put w r (.map (ents.modify j fun e => { e with key := encKey g ks, val := a.eval v }) clock), L, ?_, .inr ⟨rfl, rfl⟩, Ext.refl L, rfl, V_undef L, ?_⟩
          rotate_left
          · simp only [mset, hf]
            exact this
          · have hstay : (Instr.keyThatStays (((ents[j]?).map (·.key)).getD (encKey g ks)) (encKey g ks)).run P w = .ok (encKey g ks) w := by
              rw [hje]
              simp only [Option.map_some, Option.getD_some, hkey, Instr.keyThatStays, sameBits_key, if_true, Sem.run_pure]
            unfold execOp
            simp only [ho, hxu, Instr.mapUpdate, Sem.run_bind, run_underlying (ty_map hkk), Result.andThen_ok, run_getMap m2, hc, f1, hstay, hset, Sem.run_pure, q1]
    · exact Snd.bad
  · exact Snd.bad
end
end Go.AM
