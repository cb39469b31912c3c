/- 'tourbillonlaw22.TraceApart', where what it reads is of bulk at most 1048576: it returns true, and its arguments read as they did. Conditions: none but that bulk. -/
import Derived.Test.YtdocdnmbmikefaaXTa
import Derived.Test.YtdocdnmbmikefaaXRd
import Derived.WalkKit
import Derived.ProofKit
import Derived.OpenShut
import Derived.JoinedCond
import Derived.WideKeyArgs
set_option linter.unusedSimpArgs false
namespace Go.Proofs.Ytdocdnmbmikefaa.traceApart
open Go.ChangeShapes Go.WideShapes Go.ChangeAt Go.RowKit
set_option linter.unusedVariables false

theorem own : ownKnob Try.prog.godebug = none := by kernel_rfl
theorem laidOut : laidOutB Try.prog = true := by kernel_rfl
theorem okTrace : AM.okTy Try.prog 7 32 = true := by kernel_rfl
theorem cellsTrace : Try.prog.cellsOf 32 = 2 := by kernel_rfl

set_option maxRecDepth 100000 in
theorem contract (H : Type) (enc : TypeId × Value → H) (W : World) (base : Nat) (args : Array Value) (ds gs : List (DataW H)) (before : List MemPlace)
    (hval : ∀ (j : Nat) t v, Try.f5.params[j]? = some t → args[j]? = some v → Value.okWide Try.prog W .any base t v)
    (hW : DataW.Whole enc Try.prog Try.f5.params.toList Rows.traceApartSpec.vars false W args.toList ds gs before) (hk : Rows.uptoSmall H (ds ++ gs) = true) :
    Calls Try.prog 5 args W fun e W' => ∃ v, e = .returned v ∧ Rows.traceApartSpec.post enc Try.prog Try.f5 false true false false W args v W' := by
  have hW' := hW
  obtain ⟨p, q, hA0, hV, rfl, hfz, hnd⟩ := hW
  have hA : DataW.TrodAll enc Try.prog W 0 (fun _ => true) true Try.f5.params.toList args.toList ds p := hA0
  rw [Try.params5] at hA hval
  obtain ⟨v0, vs0, d0, ds0, p0, q0, hargs, rfl, rfl, h0, r0⟩ := trodAll_cons hA
  obtain ⟨v1, vs1, d1, ds1, p1, q1, rfl, rfl, rfl, h1, r1⟩ := trodAll_cons r0
  obtain ⟨v2, vs2, d2, ds2, p2, q2, rfl, rfl, rfl, h2, r2⟩ := trodAll_cons r1
  obtain ⟨rfl, rfl, rfl⟩ := trodAll_nil r2
  obtain rfl : args = #[v0, v1, v2] := by cases args; simp_all
  obtain ⟨rfl, rfl⟩ := trodVars_none hV
  obtain ⟨a1, rfl, rfl, rfl, w1⟩ := open_int Try.underlying3 (hval 1 3 v1 rfl rfl) h1
  obtain ⟨a2, rfl, rfl, rfl, w2⟩ := open_int Try.underlying3 (hval 2 3 v2 rfl rfl) h2
  have hb : Rows.uptoBulkAll (d0 :: [.lit (.int .i64 a1), .lit (.int .i64 a2)]) ≤ AM.BB := by
    have := of_decide_eq_true hk
    simp only [List.append_nil] at this
    exact this
  have hb0 : Rows.uptoBulk d0 ≤ AM.BB := Nat.le_trans (AM.bulk_part (by simp)) hb
  obtain ⟨ds, ht, hv⟩ := AM.read_agg 7 okTrace (by rw [cellsTrace]; decide) (fun ds h => by obtain ⟨x, rfl, _⟩ := AM.ty_Trace (g := 2) hb0 h; simp [AM.Trace.d]) h0
  obtain ⟨x, rfl, hx⟩ := AM.ty_Trace (g := 2) hb0 ht
  have hs : AM.SmallX x := ⟨by have := hx.1; unfold AM.BB at this; omega, fun l hl => by have := (hx.2.1 l hl).1; unfold AM.BB at this; unfold AM.Small; omega, by have := hx.2.2.1; unfold AM.BB at this; unfold AM.Small; omega⟩
  have hlt : ∀ y ∈ p0, y.block < W.heap.size := fun y hy => hW'.lt y (by simp [hy])
  simp only [List.append_nil] at hW'
  clear hA0
  have hcall := (AM.apartLaw_c x a1 a2 hs).calls (W := W) (xs := #[v0, .int .i64 a1, .int .i64 a2]) ⟨rfl, fun j c hj => by
    match j, hj with
    | 0, hj => cases hj; exact hv
    | 1, hj => cases hj; exact AM.read_int (P := Try.prog)
    | 2, hj => cases hj; exact AM.read_int (P := Try.prog)
    | j + 3, hj => simp at hj⟩
  refine hcall.mono fun e W' ⟨he, hB, hfz'⟩ => ?_
  subst he
  exact ⟨_, rfl, post_of_same (pa := p0) (pv := []) hW' (fun _ _ _ => (trodAll_cons_mk (shut_bool Try.underlying4 _) trodAll_mk0))
    (fun sp hsp => by
      have := trodAll_cons_mk (WideElems.Trod_stays (sp' := sp) laidOut (by kernel_rfl) (of_decide_eq_true (by kernel_rfl)) h0 (fun y hy => hB.same (hlt y hy)) (fun y hy => hsp y (by simpa using hy))) (trodAll_cons_mk (shut_int Try.underlying3 w1) (trodAll_cons_mk (shut_int Try.underlying3 w2) trodAll_mk0))
      simp only [List.append_nil] at this
      exact this)
    (fun _ _ => rfl) (by simp) (hB.frame _) hfz' (ok_one (by kernel_rfl) rfl (okWide_bool_mk Try.underlying4 _))⟩

set_option maxRecDepth 100000 in
theorem lifted (os : Os) (started : os.Started) (H : Type) (enc : TypeId × Value → H) (F : Stop.Interp) :
    ReturnsInHanded {} Try.checked os 5 .any ((Rows.OpenSpec.upto Rows.traceApartSpec).pre6 enc Try.prog Try.f5 Rows.traceApartUptoRow.domain false) (((Rows.OpenSpec.upto Rows.traceApartSpec).at F).post enc Try.prog Try.f5 false true false false) := by
  refine returnsInHanded_of_cond (C := Try.checked) (s := Rows.OpenSpec.upto Rows.traceApartSpec) (k := Rows.uptoSmall) rfl own started (by kernel_rfl) Try.func5
    (OpenSpec.witness (enc := enc) (C := Try.checked) (s := Rows.OpenSpec.upto Rows.traceApartSpec) (k := Rows.uptoSmall) rfl false ⟨#[], #[.agg #[.slice none 0 0, .slice none 0 0], .int .i64 0, .int .i64 0], []⟩ 8 (by kernel_rfl) (by kernel_rfl) (by kernel_rfl)
      (x := ([.agg [.nil, .nil], .lit (.int .i64 0), .lit (.int .i64 0)], [], [])) (by kernel_rfl) rfl (by kernel_rfl)) ?_
  intro W base args ds gs before hval hW _ hk _
  exact contract H enc W base args ds gs before hval hW hk

theorem over : Rows.traceApartUptoRow.holds Try.pinned (Rows.OpenSpec.upto Rows.traceApartSpec) :=
  OpenClaim.holds_of_cond 5 Try.f5 rfl rfl rfl rfl rfl rfl rfl ⟨rfl, rfl, rfl, rfl, rfl⟩ rfl rfl rfl rfl rfl (by kernel_rfl) Try.func5 (by kernel_rfl)
    (of_decide_eq_true (by kernel_rfl)) (by unfold Func.isWrapper; first | (rw [if_pos (by decide +kernel)]; kernel_rfl) | (rw [if_neg (by decide +kernel)]; exact ⟨rfl, rfl⟩))
    (fun os started H enc _ F => lifted os started H enc F)

theorem proved : Rows.TraceApartUptoSaid :=
  over
end Go.Proofs.Ytdocdnmbmikefaa.traceApart
