/- A part of the proof: it states nothing of its own that is handed in. -/
import Derived.Test.YtdocdnmbmikefaaXDb
import Derived.Test.YtdocdnmbmikefaaAmS
import Derived.Test.YtdocdnmbmikefaaRows
set_option linter.unusedVariables false
set_option linter.unusedSimpArgs false
/-! What the laws are handed, read as data. -/
namespace Go.AM
open Go.Proofs
open Go.Proofs.Ytdocdnmbmikefaa (Rows.uptoBulk Rows.uptoBulkAll Rows.uptoSmall)
def BB : Nat := 1048576
theorem bulk_one {H : Type} (d : DataW H) : 1 ≤ Rows.uptoBulk d := by
  cases d with
  | lit l => cases l <;> simp [Rows.uptoBulk]
  | _ => simp [Rows.uptoBulk]
theorem bulk_part {H : Type} {d : DataW H} {l : List (DataW H)} (h : d ∈ l) : Rows.uptoBulk d ≤ Rows.uptoBulkAll l := by
  induction l with
  | nil => cases h
  | cons x r ih =>
    simp only [Rows.uptoBulkAll]
    rcases List.mem_cons.1 h with e | e
    · subst e; omega
    · have := ih e; omega
theorem bulk_len {H : Type} (l : List (DataW H)) : l.length ≤ Rows.uptoBulkAll l := by
  induction l with
  | nil => simp
  | cons x r ih => have := bulk_one x; simp only [Rows.uptoBulkAll, List.length_cons]; omega
theorem bulk_slice {H : Type} {d : DataW H} {es : List (DataW H)} (h : (d = .nil ∧ es = []) ∨ ∃ sp, d = .slice es sp) (hb : Rows.uptoBulk d ≤ BB) : es.length ≤ BB ∧ ∀ e, e ∈ es → Rows.uptoBulk e ≤ BB := by
  rcases h with ⟨_, rfl⟩ | ⟨sp, rfl⟩
  · exact ⟨by simp, fun e he => by cases he⟩
  · simp only [Rows.uptoBulk] at hb
    have := bulk_len es
    exact ⟨by omega, fun e he => by have := bulk_part he; omega⟩
theorem bulk_agg {H : Type} {es : List (DataW H)} (hb : Rows.uptoBulk (.agg es) ≤ BB) : ∀ e, e ∈ es → Rows.uptoBulk e ≤ BB := fun e he => by
  simp only [Rows.uptoBulk] at hb
  have := bulk_part he; omega
theorem ty_list {H α : Type} {P : Program} {g : Nat} {t e : TypeId} {f : α → List D} {Q : α → Prop} {ds : List D} {d : DataW H} (hu : P.underlying t = some (.slice e)) (h : TyD P (g + 1) t ds d) (hb : Rows.uptoBulk d ≤ BB)
    (hq : ∀ ds (d : DataW H), Rows.uptoBulk d ≤ BB → TyD P g e ds d → ∃ x, ds = f x ∧ Q x) : ∃ l : List α, ds = [.ro (l.map f)] ∧ l.length ≤ BB ∧ ∀ x, x ∈ l → Q x := by
  obtain ⟨xs, es, rfl, h1, h2⟩ := ty_sliceD hu h
  obtain ⟨q1, q2⟩ := bulk_slice h1 hb
  obtain ⟨l, rfl, hl, hm⟩ := h2.typed (Q := fun x _ => Q x) fun ds d hd h => hq ds d (q2 d hd) h
  exact ⟨l, rfl, by omega, fun x hx => by obtain ⟨_, _, h⟩ := hm x hx; exact h⟩
def Sec.Ok (x : Sec) : Prop := InR x.off ∧ InR x.res ∧ InR x.len
set_option maxRecDepth 100000 in
theorem ty_Sec {H : Type} {g : Nat} {ds : List D} {d : DataW H} (h : TyD Try.prog (g + 2) 115 ds d) : ∃ x : Sec, ds = Sec.d x ∧ x.Ok := by
  obtain ⟨parts, es, rfl, rfl, hh⟩ := ty_struct_parts Try.underlying115 h
  replace hh : Fs Try.prog (g + 1) [3, 3, 3] parts es := hh
  clear h
  obtain ⟨p0, ps0, e0, es0, rfl, rfl, h0, hh⟩ := Fs_cons hh
  obtain ⟨p1, ps1, e1, es1, rfl, rfl, h1, hh⟩ := Fs_cons hh
  obtain ⟨p2, ps2, e2, es2, rfl, rfl, h2, hh⟩ := Fs_cons hh
  obtain ⟨rfl, rfl⟩ := Fs_nil hh
  obtain ⟨x0, rfl, r0⟩ := ty_i64 Try.underlying3 h0
  obtain ⟨x1, rfl, r1⟩ := ty_i64 Try.underlying3 h1
  obtain ⟨x2, rfl, r2⟩ := ty_i64 Try.underlying3 h2
  exact ⟨⟨x0, x1, x2⟩, rfl, r0, r1, r2⟩
def Slot.Ok (x : Slot) : Prop := InR x.kind ∧ InR x.task ∧ InR x.other
set_option maxRecDepth 100000 in
theorem ty_Slot {H : Type} {g : Nat} {ds : List D} {d : DataW H} (h : TyD Try.prog (g + 2) 49 ds d) : ∃ x : Slot, ds = Slot.d x ∧ x.Ok := by
  obtain ⟨parts, es, rfl, rfl, hh⟩ := ty_struct_parts Try.underlying49 h
  replace hh : Fs Try.prog (g + 1) [3, 3, 3] parts es := hh
  clear h
  obtain ⟨p0, ps0, e0, es0, rfl, rfl, h0, hh⟩ := Fs_cons hh
  obtain ⟨p1, ps1, e1, es1, rfl, rfl, h1, hh⟩ := Fs_cons hh
  obtain ⟨p2, ps2, e2, es2, rfl, rfl, h2, hh⟩ := Fs_cons hh
  obtain ⟨rfl, rfl⟩ := Fs_nil hh
  obtain ⟨x0, rfl, r0⟩ := ty_i64 Try.underlying3 h0
  obtain ⟨x1, rfl, r1⟩ := ty_i64 Try.underlying3 h1
  obtain ⟨x2, rfl, r2⟩ := ty_i64 Try.underlying3 h2
  exact ⟨⟨x0, x1, x2⟩, rfl, r0, r1, r2⟩
def Job.Ok (x : Job) : Prop := InR x.task ∧ InR x.arrival ∧ InR x.fin
set_option maxRecDepth 100000 in
theorem ty_Job {H : Type} {g : Nat} {ds : List D} {d : DataW H} (h : TyD Try.prog (g + 2) 45 ds d) : ∃ x : Job, ds = Job.d x ∧ x.Ok := by
  obtain ⟨parts, es, rfl, rfl, hh⟩ := ty_struct_parts Try.underlying45 h
  replace hh : Fs Try.prog (g + 1) [3, 3, 3, 4, 4] parts es := hh
  clear h
  obtain ⟨p0, ps0, e0, es0, rfl, rfl, h0, hh⟩ := Fs_cons hh
  obtain ⟨p1, ps1, e1, es1, rfl, rfl, h1, hh⟩ := Fs_cons hh
  obtain ⟨p2, ps2, e2, es2, rfl, rfl, h2, hh⟩ := Fs_cons hh
  obtain ⟨p3, ps3, e3, es3, rfl, rfl, h3, hh⟩ := Fs_cons hh
  obtain ⟨p4, ps4, e4, es4, rfl, rfl, h4, hh⟩ := Fs_cons hh
  obtain ⟨rfl, rfl⟩ := Fs_nil hh
  obtain ⟨x0, rfl, r0⟩ := ty_i64 Try.underlying3 h0
  obtain ⟨x1, rfl, r1⟩ := ty_i64 Try.underlying3 h1
  obtain ⟨x2, rfl, r2⟩ := ty_i64 Try.underlying3 h2
  obtain ⟨x3, rfl⟩ := ty_boolD Try.underlying4 h3
  obtain ⟨x4, rfl⟩ := ty_boolD Try.underlying4 h4
  exact ⟨⟨x0, x1, x2, x3, x4⟩, rfl, r0, r1, r2⟩
def Piece.Ok (x : Piece) : Prop := InR x.core ∧ InR x.budget ∧ InR x.deadline ∧ InR x.priority
set_option maxRecDepth 100000 in
theorem ty_Piece {H : Type} {g : Nat} {ds : List D} {d : DataW H} (h : TyD Try.prog (g + 2) 71 ds d) : ∃ x : Piece, ds = Piece.d x ∧ x.Ok := by
  obtain ⟨parts, es, rfl, rfl, hh⟩ := ty_struct_parts Try.underlying71 h
  replace hh : Fs Try.prog (g + 1) [3, 3, 3, 3, 4] parts es := hh
  clear h
  obtain ⟨p0, ps0, e0, es0, rfl, rfl, h0, hh⟩ := Fs_cons hh
  obtain ⟨p1, ps1, e1, es1, rfl, rfl, h1, hh⟩ := Fs_cons hh
  obtain ⟨p2, ps2, e2, es2, rfl, rfl, h2, hh⟩ := Fs_cons hh
  obtain ⟨p3, ps3, e3, es3, rfl, rfl, h3, hh⟩ := Fs_cons hh
  obtain ⟨p4, ps4, e4, es4, rfl, rfl, h4, hh⟩ := Fs_cons hh
  obtain ⟨rfl, rfl⟩ := Fs_nil hh
  obtain ⟨x0, rfl, r0⟩ := ty_i64 Try.underlying3 h0
  obtain ⟨x1, rfl, r1⟩ := ty_i64 Try.underlying3 h1
  obtain ⟨x2, rfl, r2⟩ := ty_i64 Try.underlying3 h2
  obtain ⟨x3, rfl, r3⟩ := ty_i64 Try.underlying3 h3
  obtain ⟨x4, rfl⟩ := ty_boolD Try.underlying4 h4
  exact ⟨⟨x0, x1, x2, x3, x4⟩, rfl, r0, r1, r2, r3⟩
def Trace.Ok (x : Trace) : Prop := x.slots.length ≤ BB ∧ (∀ l, l ∈ x.slots → l.length ≤ BB ∧ ∀ s, s ∈ l → s.Ok) ∧ x.jobs.length ≤ BB ∧ ∀ j, j ∈ x.jobs → j.Ok
set_option maxRecDepth 100000 in
theorem ty_slots {H : Type} {g : Nat} {ds : List D} {d : DataW H} (hb : Rows.uptoBulk d ≤ BB) (h : TyD Try.prog (g + 3) 42 ds d) : ∃ l : List Slot, ds = slotsC l ∧ l.length ≤ BB ∧ ∀ s, s ∈ l → s.Ok :=
  ty_list Try.underlying42 h hb fun ds d _ h => ty_Slot h
set_option maxRecDepth 100000 in
theorem ty_Trace {H : Type} {g : Nat} {ds : List D} {d : DataW H} (hb : Rows.uptoBulk d ≤ BB) (h : TyD Try.prog (g + 5) 32 ds d) : ∃ x : Trace, ds = Trace.d x ∧ x.Ok := by
  obtain ⟨parts, es, rfl, rfl, hh⟩ := ty_struct_parts Try.underlying32 h
  replace hh : Fs Try.prog (g + 4) [29, 30] parts es := hh
  have hb := bulk_agg hb
  clear h
  obtain ⟨p0, ps0, e0, es0, rfl, rfl, h0, hh⟩ := Fs_cons hh
  obtain ⟨p1, ps1, e1, es1, rfl, rfl, h1, hh⟩ := Fs_cons hh
  obtain ⟨rfl, rfl⟩ := Fs_nil hh
  obtain ⟨l, rfl, l1, l2⟩ := ty_list Try.underlying29 h0 (hb e0 (by simp)) fun ds d hd h => ty_slots hd h
  obtain ⟨m, rfl, m1, m2⟩ := ty_list Try.underlying30 h1 (hb e1 (by simp)) fun ds d _ h => ty_Job h
  exact ⟨⟨l, m⟩, rfl, l1, l2, m1, m2⟩
end Go.AM
