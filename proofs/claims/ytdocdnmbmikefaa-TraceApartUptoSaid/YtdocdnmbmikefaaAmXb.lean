/- An abstract machine over the model: the walk of a region. -/
import Derived.Test.YtdocdnmbmikefaaAmN
set_option linter.unusedVariables false
set_option linter.unusedSimpArgs false
namespace Go.AM
def WR (C : Cx) (kf : St → Prop) (ops : Array Oper) (k : List Item) : List (Nat × Oper) → St → Prop
  | [], s => kf (s.prune C.keep)
  | (_, o) :: l', s =>
    match o.guard with
    | none => match o.op with
      | .call ⟨.value fv, args, _⟩ => match callT (ev s.ρ fv) (args.toList.map (ev s.ρ)) with
        | none => match ev s.ρ fv with
          | .yld l => AYield C.P l (args.toList.map (ev s.ρ)) s.h s.n (fun v h n => SemR C ops k l' (s.put o.dst v h n))
          | _ => False
        | some (f, as) => match C.E f as with
          | some (p, v) => p ∧ WR C kf ops k l' (s.put o.dst v s.h s.n)
          | none => ACall C.P f as s.h s.n (fun v h n => SemR C ops k l' (s.put o.dst v h n))
      | .range t x => (sRange C.P t (ev s.ρ x) s.h s.n).pre ∧ WR C kf ops k l' (s.put o.dst (sRange C.P t (ev s.ρ x) s.h s.n).v (sRange C.P t (ev s.ρ x) s.h s.n).h (sRange C.P t (ev s.ρ x) s.h s.n).n)
      | .entry x => (sEntry (ev s.ρ x) s.h s.n).pre ∧ WR C kf ops k l' (s.put o.dst (sEntry (ev s.ρ x) s.h s.n).v (sEntry (ev s.ρ x) s.h s.n).h (sEntry (ev s.ρ x) s.h s.n).n)
      | .next x false => match ev s.ρ x with
        | .itr l => match s.h l with
          | some (.itr g _ left) => (left = [] → WR C kf ops k l' (s.put o.dst (.tup [.d (.bool false)]) s.h s.n)) ∧
            (∀ (j : Nat) (p : List Int × AV), left[j]? = some p → WR C kf ops k l' (s.put o.dst (.tup [.d (.bool true), keyV g p.1, p.2]) (upd s.h l (some (.itr g (some p) (left.eraseIdx j)))) s.n))
          | _ => False
        | _ => False
      | op => (step C.P (ev s.ρ) s.h s.n op).pre ∧ WR C kf ops k l' (s.put o.dst (step C.P (ev s.ρ) s.h s.n op).v (step C.P (ev s.ρ) s.h s.n op).h (step C.P (ev s.ρ) s.h s.n op).n)
    | some (j, want) => match gv s.ρ ((ops[j]?).bind (·.dst)) want with
      | none => False
      | some g => match o.op with
        | .call ⟨.value fv, args, ts⟩ => match callT (strip (ev s.ρ fv)) (args.toList.map fun x => strip (ev s.ρ x)) with
          | none => match strip (ev s.ρ fv) with
            | .yld l => (g = true → optOK (ev s.ρ fv) ∧ optAll s.ρ args.toList ∧ AYield C.P l (args.toList.map fun x => strip (ev s.ρ x)) s.h s.n (fun v h n => SemR C ops k l' (s.put o.dst v h n))) ∧ (g = false → WR C kf ops k l' (s.put o.dst (.tup []) s.h s.n))
            | _ => g = false ∧ WR C kf ops k l' (s.put o.dst (.tup []) s.h s.n)
          | some (f, as) => match C.E f as with
            | some (p, v) => (g = true → optOK (ev s.ρ fv) ∧ optAll s.ρ args.toList ∧ p) ∧ WR C kf ops k l' (s.put o.dst (.opt g v) s.h s.n)
            | none => (g = true → optOK (ev s.ρ fv) ∧ optAll s.ρ args.toList ∧ ACall C.P f as s.h s.n (fun v h n => SemR C ops k l' (s.put o.dst v h n))) ∧ (g = false → WR C kf ops k l' (s.put o.dst (.tup []) s.h s.n))
        | op => if isQuiet op then (g = true → (stepO C.P s.ρ s.h s.n op).pre) ∧ WR C kf ops k l' (s.put o.dst (.opt g (stepO C.P s.ρ s.h s.n op).v) s.h s.n)
          else (g = true → (stepO C.P s.ρ s.h s.n op).pre ∧ WR C kf ops k l' (s.put o.dst (stepO C.P s.ρ s.h s.n op).v (stepO C.P s.ρ s.h s.n op).h (stepO C.P s.ρ s.h s.n op).n)) ∧
            (g = false → WR C kf ops k l' (s.put o.dst (.tup []) s.h s.n))

theorem WR_sound {C : Cx} {kf : St → Prop} {ops : Array Oper} {k : List Item} (hk : ∀ s, kf s → Sem C k s) (hd : dstOK C.N ops.toList = true) (hok : todoOK C.N k = true) : ∀ (l : List (Nat × Oper)) (s : St), validL ops l → WR C kf ops k l s → Sem C (.inRegion ops (l.map (·.1)) :: k) s
  | [], s, _, h => Sem.regionEnd (Sem.prune _ (hk _ h))
  | (i, o) :: l, s, hv, h => by
    have ho : ops[i]? = some o := hv i o (by simp)
    have hv' : validL ops l := fun i o hm => hv i o (by simp [hm])
    have hdo : ∀ t, o.dst = some t → t < C.N := dstOK_mem hd o (by have := Array.mem_of_getElem? ho; simpa using this)
    have ih := WR_sound hk hd hok l
    simp only [List.map_cons]
    have hgen : ∀ r : R1, (∀ L a w, Rel L C.N s a w → Snd C.P L a w o r) → (∀ L a w, Rel L C.N s a w → Region.wanted o (yielded ops a.tmps) = true) → r.pre → (∀ c, o.op ≠ .defer c) → WR C kf ops k l (s.put o.dst r.v r.h r.n) → Sem C (.inRegion ops (i :: l.map (·.1)) :: k) s :=
      fun r h1 h2 h3 h5 h4 => Sem.op ho hdo r h1 h2 h3 h5 (ih _ hv' h4)
    simp only [WR] at h
    cases hgd : o.guard with
    | none =>
      have hw : ∀ L a w, Rel L C.N s a w → Region.wanted o (yielded ops a.tmps) = true := fun L a w _ => by simp [Region.wanted, hgd]
      have hplain : (step C.P (ev s.ρ) s.h s.n o.op).pre ∧ WR C kf ops k l (s.put o.dst (step C.P (ev s.ρ) s.h s.n o.op).v (step C.P (ev s.ρ) s.h s.n o.op).h (step C.P (ev s.ρ) s.h s.n o.op).n) → Sem C (.inRegion ops (i :: l.map (·.1)) :: k) s :=
        fun h => hgen _ (fun L a w hr => step_sound hr.ev hr.good) hw h.1 (noDefer h.1) h.2
      rw [hgd] at h
      simp only at h
      split at h
      · rename_i fv args ts hop
        split at h
        · split at h
          · rename_i ly hy
            refine Sem.yield ho hop hdo (ev s.ρ) (fun L a w hr => ⟨hr.ev fv, fun x _ => hr.ev x⟩) hw hy (h.mono fun v h n q => q hv' hd hok)
          · exact h.elim
        · rename_i f as hc
          split at h
          · rename_i p v hE
            exact Sem.call ho hop hdo (ev s.ρ) (fun L a w hr => ⟨hr.ev fv, fun x _ => hr.ev x⟩) hw hc (C.hE f as p v hE h.1 s.h s.n _ (ih _ hv' h.2))
          · obtain ⟨hfn, hcall⟩ := h
            exact Sem.call ho hop hdo (ev s.ρ) (fun L a w hr => ⟨hr.ev fv, fun x _ => hr.ev x⟩) hw hc ⟨hfn, fun L w xs h1 h2 => (hcall L w xs h1 h2).mono fun e w' h3 => by
              obtain ⟨x, v, h', n', L', q0, q1, q2, q3, q4, q5⟩ := h3
              exact ⟨x, v, h', n', L', q0, q1, q2, q3, q4, q5 hv' hd hok⟩⟩
      · rename_i t x hop
        exact hgen _ (fun L a w hr => snd_range hop hr.good (hr.ev x)) hw h.1 (fun c e => by rw [hop] at e; cases e) h.2
      · rename_i x hop
        exact hgen _ (fun L a w hr => snd_entry hop hr.good (hr.ev x)) hw h.1 (fun c e => by rw [hop] at e; cases e) h.2
      · rename_i x hop
        split at h
        · rename_i lx hx0
          split at h
          · rename_i g cur left hl
            exact Sem.next ho hop hdo hw hx0 hl (fun h0 => ih _ hv' (h.1 h0)) (fun j p hj => ih _ hv' (h.2 j p hj))
          · exact h.elim
        · exact h.elim
      · exact hplain h
    | some jw =>
      obtain ⟨j, want⟩ := jw
      rw [hgd] at h
      simp only at h
      cases hgv : gv s.ρ ((ops[j]?).bind (·.dst)) want with
      | none => rw [hgv] at h; exact h.elim
      | some g =>
        rw [hgv] at h
        simp only at h
        have hw : ∀ L a w, Rel L C.N s a w → Region.wanted o (yielded ops a.tmps) = g := fun L a w hr => gv_spec hr hgd hgv
        have hsk : g = false → ∀ v, (∀ L, V L v undef) → WR C kf ops k l (s.put o.dst v s.h s.n) → Sem C (.inRegion ops (i :: l.map (·.1)) :: k) s := fun hf v hv0 h => Sem.opSkip ho hdo v hv0 (fun L a w hr => by rw [hw L a w hr, hf]) (ih _ hv' h)
        split at h
        · rename_i fv args ts hop
          split at h
          · split at h
            · rename_i ly hy
              cases hgb : g with
              | true =>
                obtain ⟨h3, h4, h5⟩ := h.1 hgb
                exact Sem.yield ho hop hdo (fun x => strip (ev s.ρ x)) (fun L a w hr => ⟨(hr.ev fv).strip h3, fun x hx => (hr.ev x).strip (optAll_mem h4 x hx)⟩) (fun L a w hr => by rw [hw L a w hr, hgb]) hy (h5.mono fun v h n q => q hv' hd hok)
              | false => exact hsk hgb _ V_undef (h.2 hgb)
            · exact hsk h.1 _ V_undef h.2
          · rename_i f as hc
            have hcall : g = true → optOK (ev s.ρ fv) → optAll s.ρ args.toList → ACall C.P f as s.h s.n (fun v h n => Sem C (.inRegion ops (l.map (·.1)) :: k) (s.put o.dst v h n)) → Sem C (.inRegion ops (i :: l.map (·.1)) :: k) s := fun hgt h1 h2 h3 =>
              Sem.call ho hop hdo (fun x => strip (ev s.ρ x)) (fun L a w hr => ⟨(hr.ev fv).strip h1, fun x hx => (hr.ev x).strip (optAll_mem h2 x hx)⟩) (fun L a w hr => by rw [hw L a w hr, hgt]) hc h3
            split at h
            · rename_i p v hE
              obtain ⟨h1, h2⟩ := h
              cases hgb : g with
              | true =>
                obtain ⟨h3, h4, h5⟩ := h1 hgb
                refine hcall hgb h3 h4 (C.hE f as p v hE h5 s.h s.n _ ?_)
                have := ih _ hv' h2
                rw [hgb] at this
                intro L a w hx hr
                exact this L a w hx ⟨hr.size, fun t => by
                  have := hr.slots t
                  cases hdd : o.dst with
                  | none => rw [hdd] at this; exact this
                  | some d =>
                    rw [hdd] at this
                    simp only [St.put, look_cons] at this ⊢
                    split at this
                    · rename_i e1; rw [if_pos e1]; exact .optT this
                    · rename_i e1; rw [if_neg e1]; exact this, by cases hdd : o.dst <;> (have := hr.good; rw [hdd] at this; exact this)⟩
              | false =>
                rw [hgb] at h2
                exact hsk hgb _ (fun L => .optF v) h2
            · obtain ⟨h1, h2⟩ := h
              cases hgb : g with
              | true =>
                obtain ⟨h3, h4, hfn, h5⟩ := h1 hgb
                exact hcall hgb h3 h4 ⟨hfn, fun L w xs h1 h2 => (h5 L w xs h1 h2).mono fun e w' h3 => by
                  obtain ⟨x, v, h', n', L', q0, q1, q2, q3, q4, q5⟩ := h3
                  exact ⟨x, v, h', n', L', q0, q1, q2, q3, q4, q5 hv' hd hok⟩⟩
              | false => exact hsk hgb _ V_undef (h2 hgb)
        · split at h
          · rename_i hq
            obtain ⟨h1, h2⟩ := h
            obtain ⟨q1, q2⟩ := quiet_stepO (P := C.P) (ρ := s.ρ) (h := s.h) (n := s.n) hq
            cases hgb : g with
            | true =>
              rw [hgb] at h2
              refine hgen ⟨(stepO C.P s.ρ s.h s.n o.op).pre, .opt true (stepO C.P s.ρ s.h s.n o.op).v, s.h, s.n⟩ (fun L a w hr => ?_) (fun L a w hr => by rw [hw L a w hr, hgb]) (h1 hgb) (noDeferO (h1 hgb)) h2
              intro hp
              obtain ⟨nx, x, w', L', p1, p2, p3, p4, p5, p6⟩ := stepO_sound (P := C.P) (o := o) hr hp
              exact ⟨nx, x, w', L', p1, p2, p3, p4, .optT p5, by rw [q1, q2] at p6; exact p6⟩
            | false =>
              rw [hgb] at h2
              exact hsk hgb _ (fun L => .optF _) h2
          · obtain ⟨h1, h2⟩ := h
            cases hgb : g with
            | true => exact hgen _ (fun L a w hr => stepO_sound (P := C.P) (o := o) hr) (fun L a w hr => by rw [hw L a w hr, hgb]) (h1 hgb).1 (noDeferO (h1 hgb).1) (h1 hgb).2
            | false => exact hsk hgb _ V_undef (h2 hgb)
end Go.AM
