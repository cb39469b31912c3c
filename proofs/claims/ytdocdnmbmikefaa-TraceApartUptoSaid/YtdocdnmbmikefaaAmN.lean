/- An abstract machine over the model: loops over maps. -/
import Derived.Test.YtdocdnmbmikefaaAmX
import Derived.Maps.RangeRun
set_option linter.unusedVariables false
set_option linter.unusedSimpArgs false
namespace Go.AM
open Go.ChangeMaps (setBlock)

def keyV (g : Bool) (ks : List Int) : AV := if g then .agg (ks.map fun n => .d (.int .i64 n)) else .d (.int .i64 (ks.headD 0))
theorem V_keyV (L : Link) (g : Bool) (ks : List Int) : V L (keyV g ks) (encKey g ks) := by
  cases g with
  | true => exact V_keyAgg L ks
  | false => exact .d (.int _ _)

/-- The loop begins: the map is the loop's own from then on. -/
def sRange (P : Program) (t : TypeId) (x : AV) (h : AHeap) (n : Nat) : R1 :=
  match (tyOf P t).k, x with
  | .map _ _, .map l => match h l with
    | some (.map _ g _ es) => ⟨True, .itr n, upd (upd h l none) n (some (.itr g none es)), n + 1⟩
    | _ => bad h n
  | _, _ => bad h n
theorem Good.range {P : Program} {L : Link} {h : AHeap} {n : Nat} {w : World} (hg : Good L h n w) {l : Nat} {pin g : Bool} {kn : Nat} {es : List (List Int × AV)} (hl : h l = some (.map pin g kn es)) :
    ∃ r ents clock L', L.mp l = some r ∧ w.heap[r]? = some (.map ents clock) ∧ Ext L L' ∧ L'.R = L.R ∧ L'.mp n = some w.heap.size ∧ Good L' (upd (upd h l none) n (some (.itr g none es))) (n + 1) (w.alloc (.mapIter (some r) clock #[] clock)) := by
  obtain ⟨own, gh, ho⟩ := hg.obs
  obtain ⟨r, ents, clock, h1, h2, h3, h4, h5, h6⟩ := ho l _ hl
  have hx : Ext L (L.putM n w.heap.size) := Link.ext_putM (hg.fresh n (Nat.le_refl _)).2 _
  have hrl : r < w.heap.size := by
    rcases Nat.lt_or_ge r w.heap.size with h' | h'
    · exact h'
    · rw [Array.getElem?_eq_none h'] at h2; cases h2
  refine ⟨r, ents, clock, L.putM n w.heap.size, h1, h2, hx, rfl, by simp [Link.putM], ⟨fun b => if b = w.heap.size then n else if b = r then n else own b, gh, fun k ob hk => ?_⟩, fun b o hb => heap_alloc_lt w _ (hg.ro b o hb), fun k hk => ?_, hg.env.alloc _ fun _ _ _ e => by cases e⟩
  · simp only [upd] at hk
    split at hk
    · rename_i e
      subst e
      cases hk
      refine ⟨w.heap.size, r, ents, clock, #[], by simp [Link.putM], heap_alloc_at w _, heap_alloc_lt w _ h2, by simp, by simp, (R_lt hg : L.R _ = Option.none), h4, ⟨h5.born, h5.last, ⟨?_, ?_⟩, fun p hp => by cases hp⟩⟩
      · have : leftL ents #[] = ents.toList := by unfold leftL; rw [List.filter_eq_self]; intro a _; simp
        rw [this, ← h5.size]; simp
      · intro i p e hi he
        have hfe : leftL ents #[] = ents.toList := by unfold leftL; rw [List.filter_eq_self]; intro a _; simp
        rw [hfe] at he
        have he : ents[i]? = some e := by simpa using he
        exact ⟨(h5.ent i p e hi he).1, (h5.ent i p e hi he).2.mono hx⟩
    · split at hk
      · cases hk
      · rename_i e1 e2
        refine ((ho k ob hk).mono hx rfl (fun _ h => h)).world fun b o eb hb => ⟨heap_alloc_lt w _ hb, ?_⟩
        have hb' : b < w.heap.size := by
          rcases Nat.lt_or_ge b w.heap.size with h' | h'
          · exact h'
          · rw [Array.getElem?_eq_none h'] at hb; cases hb
        show (if b = w.heap.size then n else if b = r then n else own b) = k
        rw [if_neg (by omega), if_neg (fun e => e2 (by rw [← eb, e, h3]))]; exact eb
  · have := hg.fresh k (by omega)
    exact ⟨this.1, by simp only [Link.putM]; rw [if_neg (by omega)]; exact this.2⟩
theorem snd_range {P : Program} {L : Link} {a : Act} {w : World} {o : Oper} {h : AHeap} {n : Nat} {t : TypeId} {x : Operand} {e : Operand → AV} (ho : o.op = .range t x) (hg : Good L h n w) (hx : V L (e x) (a.eval x)) : Snd P L a w o (sRange P t (e x) h n) := by
  unfold sRange
  split
  · rename_i kt el l hk hex
    split
    · rename_i pin g kn es hl
      intro _
      rw [hex] at hx
      obtain ⟨r, ents, clock, L', q1, q2, q3, q4, q5, q6⟩ := hg.range (P := P) hl
      generalize hae : a.eval x = u at hx
      cases hx with
      | map hm =>
        rw [q1] at hm
        cases hm
        refine ⟨_, .pointer (some ⟨w.heap.size, 0, none⟩), _, L', ?_, .inl rfl, q3, q4, .itr q5, q6⟩
        unfold execOp
        simp only [ho, hae, Sem.run_bind, run_range_map (P := P) w t kt el r ents clock (ty_map hk) q2, Result.andThen_ok, Sem.run_pure]
    · exact Snd.bad
  · exact Snd.bad
def sEntry (x : AV) (h : AHeap) (n : Nat) : R1 :=
  match x with
  | .itr l => match h l with
    | some (.itr g (some p) _) => ⟨True, .tup [keyV g p.1, p.2], h, n⟩
    | _ => bad h n
  | _ => bad h n
theorem pair_born {l : List MapEntry} (h : l.Pairwise (fun a b => a.born < b.born)) : (l.map (·.born)).Nodup := by
  unfold List.Nodup
  rw [List.pairwise_map]
  exact h.imp fun hab => by omega
theorem V_tup2 {L : Link} {x y : AV} {u v : Value} (h1 : V L x u) (h2 : V L y v) : V L (.tup [x, y]) (.tuple #[u, v]) :=
  .tup _ _ rfl fun j c hj => by
    match j, hj with
    | 0, hj => cases hj; exact h1
    | 1, hj => cases hj; exact h2
    | j + 2, hj => simp at hj
theorem snd_entry {P : Program} {L : Link} {a : Act} {w : World} {o : Oper} {h : AHeap} {n : Nat} {x : Operand} {e : Operand → AV} (ho : o.op = .entry x) (hg : Good L h n w) (hx : V L (e x) (a.eval x)) : Snd P L a w o (sEntry (e x) h n) := by
  unfold sEntry
  split
  · rename_i l hex
    split
    · rename_i g p left hl
      intro _
      rw [hex] at hx
      obtain ⟨own, gh, hob⟩ := hg.obs
      obtain ⟨r, rm, ents, clock, seen, h1, h2, h3, h4, h5, h6, h7, h8⟩ := hob l _ hl
      generalize hae : a.eval x = u at hx
      cases hx with
      | itr hm =>
        rw [h1] at hm
        cases hm
        obtain ⟨e', s', z1, z2, z3, z4⟩ := h8.cur p rfl
        rw [z2] at h2
        refine ⟨_, .tuple #[e'.key, e'.val], w, L, ?_, .inl rfl, Ext.refl L, rfl, V_tup2 (by rw [z3]; exact V_keyV L g p.1) z4, hg⟩
        unfold execOp
        simp only [ho, hae, Sem.run_bind, run_entry_at (P := P) w r rm clock s' ents clock e' h2 h3 z1 (pair_born h8.born), Result.andThen_ok, Sem.run_pure]
    · exact Snd.bad
  · exact Snd.bad

theorem left_push {ents : Array MapEntry} {seen : Array Nat} (hb : ents.toList.Pairwise (fun a b => a.born < b.born)) {j : Nat} {e : MapEntry} (hj : (leftL ents seen)[j]? = some e) : leftL ents (seen.push e.born) = (leftL ents seen).eraseIdx j := by
  have h1 : leftL ents (seen.push e.born) = (leftL ents seen).filter fun x => !(x.born == e.born) := by
    have hpt : ∀ x : MapEntry, (!(seen.push e.born).contains x.born) = ((!(x.born == e.born)) && !seen.contains x.born) := fun x => by
      by_cases h : x.born = e.born <;> by_cases h2 : x.born ∈ seen <;> simp [h, h2, Array.mem_push] <;> simp_all
    unfold leftL
    rw [List.filter_filter]
    exact List.filter_congr fun x _ => hpt x
  rw [h1]
  have hp : (leftL ents seen).Pairwise (fun a b => a.born < b.born) := hb.sublist List.filter_sublist
  generalize leftL ents seen = l at hp hj
  induction l generalizing j with
  | nil => simp at hj
  | cons y r ih =>
    rw [List.pairwise_cons] at hp
    cases j with
    | zero =>
      simp only [List.getElem?_cons_zero, Option.some.injEq] at hj
      subst hj
      rw [List.filter_cons, if_neg (by simp), List.eraseIdx_cons_zero, List.filter_eq_self]
      intro a ha
      have := hp.1 a ha
      simp; omega
    | succ j =>
      simp only [List.getElem?_cons_succ] at hj
      have := hp.1 e (List.mem_of_getElem? hj)
      rw [List.filter_cons, if_pos (by simp; omega), List.eraseIdx_cons_succ, ih hp.2 hj]

/-- A step of the loop: over, if nothing is left; else any that is left. -/
theorem Sem.next {C : Cx} {ops : Array Oper} {i : Nat} {rest : List Nat} {k : List Item} {s : St} {o : Oper} {x : Operand} (ho : ops[i]? = some o) (hop : o.op = .next x false) (hd : ∀ t, o.dst = some t → t < C.N) (hwa : ∀ L a w, Rel L C.N s a w → Region.wanted o (yielded ops a.tmps) = true)
    {l : Nat} {g : Bool} {cur : Option (List Int × AV)} {left : List (List Int × AV)} (hx0 : ev s.ρ x = .itr l) (hl : s.h l = some (.itr g cur left))
    (h0 : left = [] → Sem C (.inRegion ops rest :: k) (s.put o.dst (.tup [.d (.bool false)]) s.h s.n))
    (h1 : ∀ j p, left[j]? = some p → Sem C (.inRegion ops rest :: k) (s.put o.dst (.tup [.d (.bool true), keyV g p.1, p.2]) (upd s.h l (some (.itr g (some p) (left.eraseIdx j)))) s.n)) : Sem C (.inRegion ops (i :: rest) :: k) s := by
  intro L a w hx hr cs
  obtain ⟨own, gh, hob⟩ := hr.good.obs
  obtain ⟨r, rm, ents, clock, seen, q1, q2, q3, q4, q5, q6, q7, q8⟩ := hob l _ hl
  have hae := hr.ev x
  rw [hx0] at hae
  generalize hae' : a.eval x = u at hae
  cases hae with
  | itr hm =>
  rw [q1] at hm
  cases hm
  have hw : Region.wanted o (yielded ops a.tmps) = true := hwa L a w hr
  have hg := stepGR (C := C) (a := a) (k := k) (cs := cs) (w := w) (rest := rest) ho hw (fun c e => by rw [hop] at e; cases e)
  have hfin : ∀ v, (C.base.atR a (.inRegion ops (i :: rest) :: k)).finish v = C.base.atR (a.put o.dst v) (.inRegion ops rest :: k) := fun v => by
    rw [Frame.finish_atR, ho]; rfl
  have hhold : ∀ x ∈ ents.toList, x.born < clock := q8.last
  rcases run_next_at (P := C.P) w o.type r rm clock clock seen ents clock q2 q3 hhold (Nat.le_refl _) with ⟨z1, z2⟩ | ⟨e', z1, w1, z2, z3⟩
  · have hnil : left = [] := by
      have := q8.left.1
      have h2 : (leftL ents seen).length = (leftOf ents seen).size := by
        unfold leftL leftOf
        rw [← Array.toList_filter, Array.length_toList]
      rw [h2, z1] at this
      exact List.eq_nil_of_length_eq_zero this
    refine (h0 hnil L (a.put o.dst (.tuple #[.bool false])) w (hx.trans (Ext.refl L) (Act.put_defers _ _ _)) (hr.put (Ext.refl L) o.dst (.tup _ _ rfl fun j c hj => ?_) hr.good hd) cs).of_steps (.one ?_)
    · match j, hj with
      | 0, hj => cases hj; exact .d (.bool _)
      | j + 1, hj => simp at hj
    · have hexec : (execOp a.eval o).run C.P w = .ok (.value (.tuple #[.bool false])) w := by
        unfold execOp
        simp only [hop, hae', Sem.run_bind, z2, Result.andThen_ok, Sem.run_pure]
      refine step_lone_go ?_
      rw [hg, ← hfin]
      simp [stepG.apply, hexec]
  · have hel : e' ∈ leftL ents seen := by unfold leftL; unfold leftOf at z1; simpa using z1
    obtain ⟨j, hj⟩ := List.getElem?_of_mem hel
    have hjl : j < left.length := by rw [q8.left.1]; exact (List.getElem?_eq_some_iff.1 hj).1
    obtain ⟨k1, k2⟩ := q8.left.2 j _ e' (List.getElem?_eq_getElem hjl) hj
    have hp := h1 j _ (List.getElem?_eq_getElem hjl)
    have hrl : r < w.heap.size := by
      rcases Nat.lt_or_ge r w.heap.size with h' | h'
      · exact h'
      · rw [Array.getElem?_eq_none h'] at q2; cases q2
    have hw1 : w1.heap = w.heap := by rcases z2 with rfl | rfl <;> rfl
    have hsb : ∀ b o', b ≠ r → w.heap[b]? = some o' → (setBlock w1 r (.mapIter (some rm) clock (seen.push e'.born) clock)).heap[b]? = some o' := fun b o' hb hbo => by
      simp only [setBlock, hw1]
      rw [Array.getElem?_setIfInBounds, if_neg (fun e => hb e.symm)]; exact hbo
    have hsr : (setBlock w1 r (.mapIter (some rm) clock (seen.push e'.born) clock)).heap[r]? = some (.mapIter (some rm) clock (seen.push e'.born) clock) := by
      simp [setBlock, hw1, hrl]
    have hgood : Good L (upd s.h l (some (.itr g (some left[j]) (left.eraseIdx j)))) s.n (setBlock w1 r (.mapIter (some rm) clock (seen.push e'.born) clock)) := by
      have henv : L.env.Ok w1 := by rcases z2 with rfl | rfl
                                    · exact hr.good.env
                                    · exact hr.good.env.drew
      refine ⟨⟨own, gh, fun k' ob hk => ?_⟩, fun b o' hb => ?_, hr.good.fresh, henv.put r _ (fun _ _ _ e => by cases e) rfl rfl rfl rfl⟩
      · simp only [upd] at hk
        split at hk
        · rename_i e
          subst e
          cases hk
          refine ⟨r, rm, ents, clock, seen.push e'.born, q1, hsr, hsb rm _ (fun e => by rw [e, q2] at q3; cases q3) q3, q4, q5, q6, q7, ⟨q8.born, q8.last, ?_, fun p hp => ?_⟩⟩
          · rw [left_push q8.born hj]
            refine ⟨by rw [List.length_eraseIdx, List.length_eraseIdx, q8.left.1], fun i' p' e'' hi' he' => ?_⟩
            rw [List.getElem?_eraseIdx] at hi' he'
            split at hi'
            · rename_i hc; rw [if_pos hc] at he'; exact q8.left.2 _ _ _ hi' he'
            · rename_i hc; rw [if_neg hc] at he'; exact q8.left.2 _ _ _ hi' he'
          · cases hp
            exact ⟨e', seen, (List.mem_filter.1 hel).1, rfl, k1, k2⟩
        · rename_i e
          refine (hob k' ob hk).world fun b o' eb hbo => ⟨hsb b o' (fun e' => e (by rw [← eb, e', q4])) hbo, eb⟩
      · exact hsb b o' (fun e' => by rw [e', q6] at hb; cases hb) (hr.good.ro b o' hb)
    refine (hp L (a.put o.dst (.tuple #[.bool true, e'.key, e'.val])) _ (hx.trans (Ext.refl L) (Act.put_defers _ _ _)) (hr.put (Ext.refl L) o.dst (.tup _ _ rfl fun m c hm => ?_) hgood hd) cs).of_steps (.one ?_)
    · match m, hm with
      | 0, hm => cases hm; exact .d (.bool _)
      | 1, hm => cases hm; show V L _ e'.key; rw [k1]; exact V_keyV L g _
      | 2, hm => cases hm; exact k2
      | m + 3, hm => simp at hm
    · have hexec : (execOp a.eval o).run C.P w = .ok (.value (.tuple #[.bool true, e'.key, e'.val])) (setBlock w1 r (.mapIter (some rm) clock (seen.push e'.born) clock)) := by
        unfold execOp
        simp only [hop, hae', Sem.run_bind, z3, Result.andThen_ok, Sem.run_pure]
      refine step_lone_go ?_
      rw [hg, ← hfin]
      simp [stepG.apply, hexec]
end Go.AM
