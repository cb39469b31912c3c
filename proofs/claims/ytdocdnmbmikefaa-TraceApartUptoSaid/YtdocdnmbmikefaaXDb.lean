/- A part of the proof: it states nothing of its own that is handed in. -/
import Derived.Test.YtdocdnmbmikefaaXTy
import Derived.Test.YtdocdnmbmikefaaAmEn
set_option linter.unusedVariables false
set_option linter.unusedSimpArgs false
/-! Data of the program, and how they lie in cells. -/
namespace Go.AM
open Go.Proofs
structure Sec where
  off : Int
  res : Int
  len : Int
structure Task where
  period : Int
  deadline : Int
  wcet : Int
  sections : List Sec
structure Sys where
  cores : Int
  policy : Int
  protocol : Int
  release : Int
  switch : Int
  finish : Int
  latency : Int
  resources : Int
  tasks : List Task
structure Piece where
  core : Int
  budget : Int
  deadline : Int
  priority : Int
  tight : Bool
structure Entry where
  pieces : List Piece
  bound : Int
structure Slot where
  kind : Int
  task : Int
  other : Int
structure Job where
  task : Int
  arrival : Int
  fin : Int
  cut : Bool
  miss : Bool
structure Table where
  sys : Sys
  entries : List Entry
  ceilings : List (List Int)
structure Trace where
  slots : List (List Slot)
  jobs : List Job
def Sec.d (x : Sec) : List D := [.int .i64 x.off, .int .i64 x.res, .int .i64 x.len]
def Task.d (x : Task) : List D := [.int .i64 x.period, .int .i64 x.deadline, .int .i64 x.wcet, .ro (x.sections.map Sec.d)]
def Sys.d (s : Sys) : List D := [.int .i64 s.cores, .int .i64 s.policy, .int .i64 s.protocol, .int .i64 s.release, .int .i64 s.switch, .int .i64 s.finish, .int .i64 s.latency, .int .i64 s.resources, .ro (s.tasks.map Task.d)]
def Piece.d (x : Piece) : List D := [.int .i64 x.core, .int .i64 x.budget, .int .i64 x.deadline, .int .i64 x.priority, .bool x.tight]
def Entry.d (x : Entry) : List D := [.ro (x.pieces.map Piece.d), .int .i64 x.bound]
def Slot.d (x : Slot) : List D := [.int .i64 x.kind, .int .i64 x.task, .int .i64 x.other]
def Job.d (x : Job) : List D := [.int .i64 x.task, .int .i64 x.arrival, .int .i64 x.fin, .bool x.cut, .bool x.miss]
def intC (n : Int) : List D := [.int .i64 n]
def intsC (l : List Int) : List D := [.ro (l.map intC)]
def piecesC (l : List Piece) : List D := [.ro (l.map Piece.d)]
def slotsC (l : List Slot) : List D := [.ro (l.map Slot.d)]
def Table.d (t : Table) : List D := [.int .i64 t.sys.cores, .int .i64 t.sys.policy, .int .i64 t.sys.protocol, .int .i64 t.sys.release, .int .i64 t.sys.switch, .int .i64 t.sys.finish, .int .i64 t.sys.latency, .int .i64 t.sys.resources, .ro (t.sys.tasks.map Task.d), .ro (t.entries.map Entry.d), .ro (t.ceilings.map intsC)]
def Trace.d (x : Trace) : List D := [.ro (x.slots.map slotsC), .ro (x.jobs.map Job.d)]
theorem Sec.d_inj {a b : Sec} (h : a.d = b.d) : a = b := by
  cases a; cases b; simp only [Sec.d, List.cons.injEq, D.int.injEq, true_and, and_true] at h; obtain ⟨rfl, rfl, rfl⟩ := h; rfl
theorem Task.d_inj {a b : Task} (h : a.d = b.d) : a = b := by
  cases a; cases b
  simp only [Task.d, List.cons.injEq, D.int.injEq, D.ro.injEq, true_and, and_true] at h
  obtain ⟨rfl, rfl, rfl, h⟩ := h
  rw [mapInj (fun _ _ => Sec.d_inj) h]
theorem Sys.d_inj {a b : Sys} (h : a.d = b.d) : a = b := by
  cases a; cases b
  simp only [Sys.d, List.cons.injEq, D.int.injEq, D.ro.injEq, true_and, and_true] at h
  obtain ⟨rfl, rfl, rfl, rfl, rfl, rfl, rfl, rfl, h⟩ := h
  rw [mapInj (fun _ _ => Task.d_inj) h]
theorem Piece.d_inj {a b : Piece} (h : a.d = b.d) : a = b := by
  cases a; cases b; simp only [Piece.d, List.cons.injEq, D.int.injEq, D.bool.injEq, true_and, and_true] at h; obtain ⟨rfl, rfl, rfl, rfl, rfl⟩ := h; rfl
theorem Entry.d_inj {a b : Entry} (h : a.d = b.d) : a = b := by
  cases a; cases b
  simp only [Entry.d, List.cons.injEq, D.int.injEq, D.ro.injEq, true_and, and_true] at h
  obtain ⟨h, rfl⟩ := h
  rw [mapInj (fun _ _ => Piece.d_inj) h]
theorem Slot.d_inj {a b : Slot} (h : a.d = b.d) : a = b := by
  cases a; cases b; simp only [Slot.d, List.cons.injEq, D.int.injEq, true_and, and_true] at h; obtain ⟨rfl, rfl, rfl⟩ := h; rfl
theorem Job.d_inj {a b : Job} (h : a.d = b.d) : a = b := by
  cases a; cases b; simp only [Job.d, List.cons.injEq, D.int.injEq, D.bool.injEq, true_and, and_true] at h; obtain ⟨rfl, rfl, rfl, rfl, rfl⟩ := h; rfl
theorem intC_inj {a b : Int} (h : intC a = intC b) : a = b := by simpa [intC] using h
theorem intsC_inj {a b : List Int} (h : intsC a = intsC b) : a = b := by
  simp only [intsC, List.cons.injEq, D.ro.injEq, and_true] at h; exact mapInj (fun _ _ => intC_inj) h
theorem piecesC_inj {a b : List Piece} (h : piecesC a = piecesC b) : a = b := by
  simp only [piecesC, List.cons.injEq, D.ro.injEq, and_true] at h; exact mapInj (fun _ _ => Piece.d_inj) h
theorem slotsC_inj {a b : List Slot} (h : slotsC a = slotsC b) : a = b := by
  simp only [slotsC, List.cons.injEq, D.ro.injEq, and_true] at h; exact mapInj (fun _ _ => Slot.d_inj) h
theorem Table.d_inj {a b : Table} (h : a.d = b.d) : a = b := by
  obtain ⟨⟨a1, a2, a3, a4, a5, a6, a7, a8, a9⟩, a10, a11⟩ := a
  obtain ⟨⟨b1, b2, b3, b4, b5, b6, b7, b8, b9⟩, b10, b11⟩ := b
  simp only [Table.d, List.cons.injEq, D.int.injEq, D.ro.injEq, true_and, and_true] at h
  obtain ⟨rfl, rfl, rfl, rfl, rfl, rfl, rfl, rfl, h1, h2, h3⟩ := h
  rw [mapInj (fun _ _ => Task.d_inj) h1, mapInj (fun _ _ => Entry.d_inj) h2, mapInj (fun _ _ => intsC_inj) h3]
theorem Trace.d_inj {a b : Trace} (h : a.d = b.d) : a = b := by
  cases a; cases b
  simp only [Trace.d, List.cons.injEq, D.ro.injEq, true_and, and_true] at h
  obtain ⟨h1, h2⟩ := h
  rw [mapInj (fun _ _ => slotsC_inj) h1, mapInj (fun _ _ => Job.d_inj) h2]
instance : Cells Sec := ⟨Sec.d, fun _ _ => Sec.d_inj⟩
instance : Arg Sec := ⟨fun x => .agg (x.d.map .d), aggA_inj, fun _ => Sc_aggD _ _⟩
instance : Cells Task := ⟨Task.d, fun _ _ => Task.d_inj⟩
instance : Arg Task := ⟨fun x => .agg (x.d.map .d), aggA_inj, fun _ => Sc_aggD _ _⟩
instance : Cells Sys := ⟨Sys.d, fun _ _ => Sys.d_inj⟩
instance : Arg Sys := ⟨fun x => .agg (x.d.map .d), aggA_inj, fun _ => Sc_aggD _ _⟩
instance : Cells Piece := ⟨Piece.d, fun _ _ => Piece.d_inj⟩
instance : Arg Piece := ⟨fun x => .agg (x.d.map .d), aggA_inj, fun _ => Sc_aggD _ _⟩
instance : Cells Entry := ⟨Entry.d, fun _ _ => Entry.d_inj⟩
instance : Arg Entry := ⟨fun x => .agg (x.d.map .d), aggA_inj, fun _ => Sc_aggD _ _⟩
instance : Cells Slot := ⟨Slot.d, fun _ _ => Slot.d_inj⟩
instance : Arg Slot := ⟨fun x => .agg (x.d.map .d), aggA_inj, fun _ => Sc_aggD _ _⟩
instance : Cells Job := ⟨Job.d, fun _ _ => Job.d_inj⟩
instance : Arg Job := ⟨fun x => .agg (x.d.map .d), aggA_inj, fun _ => Sc_aggD _ _⟩
instance : Cells Table := ⟨Table.d, fun _ _ => Table.d_inj⟩
instance : Arg Table := ⟨fun x => .agg (x.d.map .d), aggA_inj, fun _ => Sc_aggD _ _⟩
instance : Cells Trace := ⟨Trace.d, fun _ _ => Trace.d_inj⟩
instance : Arg Trace := ⟨fun x => .agg (x.d.map .d), aggA_inj, fun _ => Sc_aggD _ _⟩
theorem cells_Sec : (Cells.cells : Sec → List D) = Sec.d := rfl
theorem cells_Task : (Cells.cells : Task → List D) = Task.d := rfl
theorem cells_Sys : (Cells.cells : Sys → List D) = Sys.d := rfl
theorem cells_Piece : (Cells.cells : Piece → List D) = Piece.d := rfl
theorem cells_Entry : (Cells.cells : Entry → List D) = Entry.d := rfl
theorem cells_Slot : (Cells.cells : Slot → List D) = Slot.d := rfl
theorem cells_Job : (Cells.cells : Job → List D) = Job.d := rfl
theorem cells_Table : (Cells.cells : Table → List D) = Table.d := rfl
theorem cells_Trace : (Cells.cells : Trace → List D) = Trace.d := rfl
theorem cells_Int : (Cells.cells : Int → List D) = intC := rfl
theorem cells_ints : (Cells.cells : List Int → List D) = intsC := rfl
theorem cells_pieces : (Cells.cells : List Piece → List D) = piecesC := rfl
theorem cells_slots : (Cells.cells : List Slot → List D) = slotsC := rfl
theorem Slot_eta (x : Slot) : (⟨x.kind, x.task, x.other⟩ : Slot) = x := rfl
theorem Job_eta (x : Job) : (⟨x.task, x.arrival, x.fin, x.cut, x.miss⟩ : Job) = x := rfl
theorem Sec_eta (x : Sec) : (⟨x.off, x.res, x.len⟩ : Sec) = x := rfl
theorem Piece_eta (x : Piece) : (⟨x.core, x.budget, x.deadline, x.priority, x.tight⟩ : Piece) = x := rfl
theorem Task_eta (x : Task) : (⟨x.period, x.deadline, x.wcet, x.sections⟩ : Task) = x := rfl
theorem Sys_eta (x : Sys) : (⟨x.cores, x.policy, x.protocol, x.release, x.switch, x.finish, x.latency, x.resources, x.tasks⟩ : Sys) = x := rfl
theorem Entry_eta (x : Entry) : (⟨x.pieces, x.bound⟩ : Entry) = x := rfl
theorem Table_eta (x : Table) : (⟨x.sys, x.entries, x.ceilings⟩ : Table) = x := rfl
theorem Trace_eta (x : Trace) : (⟨x.slots, x.jobs⟩ : Trace) = x := rfl
end Go.AM
