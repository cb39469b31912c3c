/- An abstract machine over the model: whether a step may be taken, as a test that is reckoned out. -/
import Derived.Test.YtdocdnmbmikefaaAmG
set_option linter.unusedVariables false
set_option linter.unusedSimpArgs false
namespace Go.AM

def notO : TK → Bool
  | .other => false
  | _ => true
theorem notO_ok {k : TK} (h : notO k = true) : k ≠ .other := fun e => by rw [e] at h; cases h
def isSl : TK → Bool
  | .slice _ => true
  | _ => false
theorem isSl_ok {k : TK} (h : isSl k = true) : ∃ el, k = .slice el := by cases k <;> first | exact ⟨_, rfl⟩ | cases h
def isPt : TK → Bool
  | .pointer _ => true
  | _ => false
theorem isPt_ok {k : TK} (h : isPt k = true) : ∃ el, k = .pointer el := by cases k <;> first | exact ⟨_, rfl⟩ | cases h
def isBo : TK → Bool
  | .bool => true
  | _ => false
theorem isBo_ok {k : TK} (h : isBo k = true) : k = .bool := by cases k <;> first | rfl | cases h
def isSlOf (el : TypeId) : TK → Bool
  | .slice e => Nat.beq e el
  | _ => false
theorem isSlOf_ok {k : TK} {el : TypeId} (h : isSlOf el k = true) : k = .slice el := by
  cases k <;> simp only [isSlOf] at h <;> first | (rw [Nat.eq_of_beq_eq_true h]) | cases h

def bA : AV → Bool
  | .d (.bool _) => true
  | .opt b (.d (.bool _)) => b
  | _ => false
theorem bA_ok {x : AV} (h : bA x = true) : (asB x).1 := by
  unfold bA at h; unfold asB
  split at h
  · trivial
  · exact h
  · cases h
def bPick (c x y : AV) : Bool := bA c && (if (asB c).2 = true then bA x else bA y)
theorem bPick_ok {c x y : AV} {h : AHeap} {n : Nat} (hb : bPick c x y = true) : (sPick c x y h n).pre := by
  unfold bPick at hb
  simp only [Bool.and_eq_true] at hb
  refine ⟨bA_ok hb.1, fun e => ?_, fun e => ?_⟩
  · rw [if_pos e] at hb; exact bA_ok hb.2
  · rw [if_neg (by rw [e]; simp)] at hb; exact bA_ok hb.2
def isS {α : Type} : Option α → Bool
  | some _ => true
  | none => false
def bLoad (T : TI) (x : AV) (h : AHeap) : Bool :=
  match x with
  | .rp cs => notO T.k && (if T.agg then Nat.ble T.size cs.length else !cs.isEmpty)
  | .ptr l v i off => match h l with
    | some (.cells v' sz rows) => notO T.k && Nat.beq v v' && Nat.blt i rows.length && (if T.agg then Nat.ble (off + T.size) sz else Nat.blt off sz)
    | _ => false
  | _ => false
theorem blt_ok {a b : Nat} (h : Nat.blt a b = true) : a < b := Nat.le_of_ble_eq_true h
theorem ble_ok {a b : Nat} (h : Nat.ble a b = true) : a ≤ b := by simpa using h
theorem bLoad_ok {T : TI} {x : AV} {h : AHeap} {n : Nat} (hb : bLoad T x h = true) : (sLoad T x h n).pre := by
  unfold bLoad at hb
  unfold sLoad
  split at hb
  · rename_i cs
    simp only [Bool.and_eq_true] at hb
    simp only
    split
    · rename_i ha
      rw [if_pos ha] at hb
      exact ⟨notO_ok hb.1, ble_ok hb.2⟩
    · rename_i ha
      rw [if_neg ha] at hb
      cases cs with
      | nil => cases hb.2
      | cons c r => exact notO_ok hb.1
  · rename_i l v i off
    split at hb
    · rename_i v' sz rows hl
      simp only [Bool.and_eq_true] at hb
      simp only [hl]
      obtain ⟨⟨⟨h1, h2⟩, h3⟩, h4⟩ := hb
      split
      · rename_i ha
        rw [if_pos ha] at h4
        exact ⟨notO_ok h1, Nat.eq_of_beq_eq_true h2, blt_ok h3, ble_ok h4⟩
      · rename_i ha
        rw [if_neg ha] at h4
        exact ⟨notO_ok h1, Nat.eq_of_beq_eq_true h2, blt_ok h3, blt_ok h4⟩
    · cases hb
  · cases hb
def bStore (T : TI) (x y : AV) (h : AHeap) : Bool :=
  match x with
  | .ptr l v i off => match h l with
    | some (.cells v' sz rows) => notO T.k && Nat.beq v v' && Nat.blt i rows.length && Nat.beq (cellsOf y).length T.size && Nat.ble (off + (cellsOf y).length) sz && cellsOK y
    | _ => false
  | _ => false
theorem bStore_ok {T : TI} {x y : AV} {h : AHeap} {n : Nat} (hb : bStore T x y h = true) : (sStore T x y h n).pre := by
  unfold bStore at hb
  unfold sStore
  split at hb
  · split at hb
    · rename_i hl
      simp only [Bool.and_eq_true] at hb
      simp only [hl]
      obtain ⟨⟨⟨⟨⟨h1, h2⟩, h3⟩, h4⟩, h5⟩, h6⟩ := hb
      exact ⟨notO_ok h1, Nat.eq_of_beq_eq_true h2, blt_ok h3, Nat.eq_of_beq_eq_true h4, ble_ok h5, h6⟩
    · cases hb
  · cases hb
def bNilck : AV → Bool
  | .rp _ => true
  | .ptr _ _ _ _ => true
  | _ => false
theorem bNilck_ok {x : AV} {h : AHeap} {n : Nat} (hb : bNilck x = true) : (sNil x h n).pre := by
  unfold bNilck at hb; unfold sNil; split at hb <;> first | trivial | cases hb
def bInt (op : BinOp) (y : Int) : Bool :=
  match op with
  | .add | .sub | .mul | .and | .or | .xor | .andNot | .eql | .neq | .lss | .leq | .gtr | .geq => true
  | .quo | .rem => !decide (y = 0)
  | _ => false
theorem bInt_ok {op : BinOp} {k : IntKind} {x y : Int} (hb : bInt op y = true) : (intOp op k x y).1 := by
  cases op <;> simp only [bInt] at hb <;> first | trivial | (cases hb; done) | (simpa [intOp] using hb)
def bIsNil : AV → Bool
  | .d .nilS => true
  | .d .nilP => true
  | .d .nilM => true
  | .d .nilF => true
  | .d .nilI => true
  | .d .roZ => true
  | .d (.ro xs) => !xs.isEmpty
  | .arr _ _ _ len => !Nat.beq len 0
  | .rp _ => true
  | .ptr _ _ _ _ => true
  | .map _ => true
  | .fn _ _ _ => true
  | _ => false
theorem bIsNil_ok {x : AV} (hb : bIsNil x = true) : (isNil x).1 := by
  unfold bIsNil at hb
  split at hb <;> first | trivial | (cases hb; done) | skip
  · rename_i xs; cases xs with
    | nil => cases hb
    | cons a r => exact List.cons_ne_nil _ _
  · rename_i len; show len ≠ 0; intro e; subst e; cases hb
def isKs : NilK → Bool
  | .s => true
  | _ => false
def isKp : NilK → Bool
  | .p => true
  | _ => false
def bBin (P : Program) (op : BinOp) (t : TypeId) (x y : AV) : Bool :=
  match x, y with
  | .d (.int k _), .d (.int k' m') => match op with
    | .shl => decide (0 ≤ m')
    | .shr => decide (0 ≤ m')
    | op => decide (k = k') && bInt op m'
  | .d (.bool _), .d (.bool _) => isBo (tyOf P t).k && (match op with | .eql => true | .neq => true | _ => false)
  | x, .d .nilS => match op with
    | .eql => isSl (tyOf P t).k && isKs (nilKind x) && bIsNil x
    | .neq => isSl (tyOf P t).k && isKs (nilKind x) && bIsNil x
    | _ => false
  | x, .d .nilP => match op with
    | .eql => isPt (tyOf P t).k && isKp (nilKind x) && bIsNil x
    | .neq => isPt (tyOf P t).k && isKp (nilKind x) && bIsNil x
    | _ => false
  | _, _ => false
theorem isKs_ok {k : NilK} (h : isKs k = true) : k = .s := by cases k <;> first | rfl | cases h
theorem isKp_ok {k : NilK} (h : isKp k = true) : k = .p := by cases k <;> first | rfl | cases h
theorem bBin_ok {P : Program} {op : BinOp} {t : TypeId} {x y : AV} {h : AHeap} {n : Nat} (hb : bBin P op t x y = true) : (sBin P op t x y h n).pre := by
  unfold bBin at hb
  unfold sBin
  split at hb
  · split at hb
    · exact (of_decide_eq_true hb : _ ≤ _)
    · exact (of_decide_eq_true hb : _ ≤ _)
    · rename_i h1 h2
      simp only [Bool.and_eq_true, decide_eq_true_eq] at hb
      simp only
      exact ⟨hb.1, bInt_ok hb.2⟩
  · simp only [Bool.and_eq_true] at hb
    refine ⟨isBo_ok hb.1, ?_⟩
    have := hb.2
    revert this
    cases op <;> simp [boolOp]
  · rename_i h1 h2
    split at hb
    · simp only [Bool.and_eq_true] at hb
      split <;> first | (exact ⟨isSl_ok hb.1.1, isKs_ok hb.1.2, bIsNil_ok hb.2⟩) | simp_all
    · simp only [Bool.and_eq_true] at hb
      split <;> first | (exact ⟨isSl_ok hb.1.1, isKs_ok hb.1.2, bIsNil_ok hb.2⟩) | simp_all
    · cases hb
  · rename_i h1 h2
    split at hb
    · simp only [Bool.and_eq_true] at hb
      split <;> first | (exact ⟨isPt_ok hb.1.1, isKp_ok hb.1.2, bIsNil_ok hb.2⟩) | simp_all
    · simp only [Bool.and_eq_true] at hb
      split <;> first | (exact ⟨isPt_ok hb.1.1, isKp_ok hb.1.2, bIsNil_ok hb.2⟩) | simp_all
    · cases hb
  · cases hb
def bEqC : EK → AV → AV → Bool
  | .i, .d (.int k _), .d (.int k' _) => decide (k = k')
  | .b, .d (.bool _), .d (.bool _) => true
  | .s, .d (.str _), .d (.str _) => true
  | _, _, _ => false
theorem bEqC_ok {k : EK} {x y : AV} (hb : bEqC k x y = true) : (eqC k x y).1 := by
  unfold bEqC at hb
  split at hb <;> first | (simp [eqC]; done) | (simp at hb; done) | (simpa [eqC] using hb) | cases hb
def bEqF : List EK → List AV → List AV → Bool
  | [], [], [] => true
  | k :: ks, x :: xs, y :: ys => bEqC k x y && bEqF ks xs ys
  | _, _, _ => false
theorem bEqF_ok : ∀ {ks : List EK} {xs ys : List AV}, bEqF ks xs ys = true → (eqF ks xs ys).1
  | [], [], [], _ => trivial
  | k :: ks, x :: xs, y :: ys, hb => by
    simp only [bEqF, Bool.and_eq_true] at hb
    exact ⟨bEqC_ok hb.1, bEqF_ok hb.2⟩
  | [], [], _ :: _, h => by cases h
  | [], _ :: _, _, h => by cases h
  | _ :: _, [], _, h => by cases h
  | _ :: _, _ :: _, [], h => by cases h
def bBin2 (P : Program) (op : BinOp) (t : TypeId) (x y : AV) : Bool :=
  match x, y with
  | .agg xs, .agg ys => match eqOf P t with
    | some ks => (match op with | .eql => true | .neq => true | _ => false) && bEqF ks xs ys
    | none => false
  | x, y => bBin P op t x y
theorem bBin2_ok {P : Program} {op : BinOp} {t : TypeId} {x y : AV} {h : AHeap} {n : Nat} (hb : bBin2 P op t x y = true) : (sBin2 P op t x y h n).pre := by
  unfold bBin2 at hb
  unfold sBin2
  split at hb
  · split at hb
    · rename_i hk
      simp only [Bool.and_eq_true] at hb
      simp only [hk]
      revert hb
      cases op <;> simp <;> exact bEqF_ok
    · cases hb
  · rename_i h1
    split
    · rename_i xs ys; exact (h1 xs ys rfl rfl).elim
    · exact bBin_ok hb
def bUn (op : UnOp) (x : AV) : Bool :=
  match op, x with
  | .neg, .d (.int _ _) => true
  | .not, .d (.bool _) => true
  | .xor, .d (.int _ _) => true
  | _, _ => false
theorem bUn_ok {op : UnOp} {x : AV} {h : AHeap} {n : Nat} (hb : bUn op x = true) : (sUn op x h n).pre := by
  unfold bUn at hb; unfold sUn; split at hb <;> first | trivial | cases hb
def bConv (S T : TI) (x : AV) : Bool :=
  match S.k, T.k, x with
  | .int _, .int _, .d (.int _ _) => true
  | _, _, _ => false
theorem bConv_ok {S T : TI} {x : AV} {h : AHeap} {n : Nat} (hb : bConv S T x = true) : (sConv S T x h n).pre := by
  unfold bConv at hb; unfold sConv
  split at hb
  · rename_i h1 h2; rw [h1, h2]; trivial
  · cases hb
def bFieldAddr (T : TI) (x : AV) (f : Nat) : Bool :=
  match T.k with
  | .strct fs => match fs[f]? with
    | some (_, sz, _) => bNilck x && !Nat.beq sz 0
    | none => false
  | _ => false
theorem bFieldAddr_ok {T : TI} {x : AV} {f : Nat} {h : AHeap} {n : Nat} (hb : bFieldAddr T x f = true) : (sFieldAddr T x f h n).pre := by
  unfold bFieldAddr at hb; unfold sFieldAddr
  split at hb
  · rename_i fs hk
    rw [hk]
    simp only
    split at hb
    · rename_i off sz a hf
      rw [hf]
      simp only [Bool.and_eq_true] at hb ⊢
      have hz : sz ≠ 0 := fun e => by rw [e] at hb; cases hb.2
      have := hb.1
      unfold bNilck at this
      split at this <;> first | exact hz | cases this
    · cases hb
  · cases hb
def bField (T : TI) (x : AV) (f : Nat) : Bool :=
  match T.k with
  | .strct fs => match fs[f]?, x with
    | some (off, sz, true), .agg cs => Nat.ble (off + sz) cs.length
    | some (off, _, false), .agg cs => Nat.blt off cs.length
    | _, _ => false
  | _ => false
theorem bField_ok {T : TI} {x : AV} {f : Nat} {h : AHeap} {n : Nat} (hb : bField T x f = true) : (sField T x f h n).pre := by
  unfold bField at hb; unfold sField
  split at hb
  · rename_i fs hk
    rw [hk]
    simp only
    split at hb
    · rename_i hf; rw [hf]; exact ble_ok hb
    · rename_i hf; rw [hf]; exact blt_ok hb
    · cases hb
  · cases hb
def bIdx (P : Program) (T : TI) (x i : AV) (h : AHeap) : Bool :=
  match T.k, i with
  | .slice el, .d (.int _ i) => match x with
    | .d (.ro xs) => decide (0 ≤ i) && decide (i < xs.length) && Nat.beq (xs.getD i.toNat []).length (tyOf P el).size && notO (tyOf P el).k
    | .arr l v k len => match h l with
      | some (.cells v' sz rows) => decide (0 ≤ i) && decide (i < len) && Nat.beq v v' && Nat.blt (k + i.toNat) rows.length && Nat.beq sz (tyOf P el).size && notO (tyOf P el).k
      | _ => false
    | _ => false
  | .array m el, .d (.int _ i) => decide (0 ≤ i) && decide (i < m) && notO (tyOf P el).k && bNilck x
  | _, _ => false
theorem bIdx_ok {P : Program} {T : TI} {x i : AV} {h : AHeap} {n : Nat} (hb : bIdx P T x i h = true) : (sIdxAddr P T x i h n).pre := by
  unfold bIdx at hb; unfold sIdxAddr
  split at hb
  · rename_i hk
    rw [hk]
    simp only
    split at hb
    · simp only [Bool.and_eq_true, decide_eq_true_eq] at hb
      obtain ⟨⟨⟨h1, h2⟩, h3⟩, h4⟩ := hb
      exact ⟨h1, h2, Nat.eq_of_beq_eq_true h3, notO_ok h4⟩
    · split at hb
      · rename_i hl
        simp only [Bool.and_eq_true, decide_eq_true_eq] at hb
        obtain ⟨⟨⟨⟨⟨h1, h2⟩, h3⟩, h4⟩, h5⟩, h6⟩ := hb
        simp only [hl]
        exact ⟨h1, h2, Nat.eq_of_beq_eq_true h3, blt_ok h4, Nat.eq_of_beq_eq_true h5, notO_ok h6⟩
      · cases hb
    · cases hb
  · rename_i hk
    rw [hk]
    simp only
    simp only [Bool.and_eq_true, decide_eq_true_eq] at hb
    obtain ⟨⟨⟨h1, h2⟩, h3⟩, h4⟩ := hb
    unfold bNilck at h4
    split at h4 <;> first | exact ⟨h1, h2, notO_ok h3⟩ | cases h4
  · cases hb
def bExtract (x : AV) (i : Nat) : Bool :=
  match x with
  | .tup vs => Nat.blt i vs.length
  | _ => false
theorem bExtract_ok {x : AV} {i : Nat} {h : AHeap} {n : Nat} (hb : bExtract x i = true) : (sExtract x i h n).pre := by
  unfold bExtract at hb; unfold sExtract
  split at hb
  · exact blt_ok hb
  · cases hb
def bSlice (P : Program) (T : TI) (x : AV) (lo hi mx : Option AV) (h : AHeap) : Bool :=
  match T.k, mx with
  | .slice el, none => match x with
    | .d (.ro xs) => match loOf lo, hiOf xs.length hi with
      | some l, some m => decide (0 ≤ l) && decide (l ≤ m) && decide (m ≤ xs.length) && (decide (l = 0) || Nat.beq (xs.getD 0 []).length (tyOf P el).size)
      | _, _ => false
    | .arr l' v _ len => match loOf lo, hiOf len hi with
      | some l, some m => decide (0 ≤ l) && decide (l ≤ m) && decide (m ≤ len) && (decide (l = 0) || (match h l' with | some (.cells v' sz _) => Nat.beq v v' && Nat.beq sz (tyOf P el).size | _ => false))
      | _, _ => false
    | _ => false
  | _, _ => false
theorem bSlice_ok {P : Program} {T : TI} {x : AV} {lo hi mx : Option AV} {h : AHeap} {n : Nat} (hb : bSlice P T x lo hi mx h = true) : (sSlice P T x lo hi mx h n).pre := by
  unfold bSlice at hb; unfold sSlice
  split at hb
  · rename_i hk
    rw [hk]
    simp only
    split at hb
    · split at hb
      · rename_i h1 h2
        simp only [h1, h2]
        simp only [Bool.and_eq_true, decide_eq_true_eq, Bool.or_eq_true] at hb
        obtain ⟨⟨⟨q1, q2⟩, q3⟩, q4⟩ := hb
        exact ⟨q1, q2, q3, q4.imp id Nat.eq_of_beq_eq_true⟩
      · cases hb
    · split at hb
      · rename_i h1 h2
        simp only [h1, h2]
        simp only [Bool.and_eq_true, decide_eq_true_eq, Bool.or_eq_true] at hb
        obtain ⟨⟨⟨q1, q2⟩, q3⟩, q4⟩ := hb
        refine ⟨q1, q2, q3, q4.imp id fun q4 => ?_⟩
        split at q4
        · rename_i v' sz rows hl
          simp only [Bool.and_eq_true] at q4
          refine ⟨sz, rows, ?_, Nat.eq_of_beq_eq_true q4.2⟩
          rw [hl, Nat.eq_of_beq_eq_true q4.1]
        · cases q4
      · cases hb
    · cases hb
  · cases hb
def bMakeSlice (P : Program) (T : TI) (l c : AV) : Bool :=
  match T.k, l, c with
  | .slice el, .d (.int _ l), .d (.int _ c) => isS (tyOf P el).zero && decide (0 ≤ l) && decide (l ≤ c) && decide ((tyOf P el).bytes * c ≤ 281474976710656) && decide (c ≤ 9223372036854775807)
  | _, _, _ => false
theorem bMakeSlice_ok {P : Program} {T : TI} {l c : AV} {h : AHeap} {n : Nat} (hb : bMakeSlice P T l c = true) : (sMakeSlice P T l c h n).pre := by
  unfold bMakeSlice at hb; unfold sMakeSlice
  split at hb
  · rename_i el _ _ _ _ hk
    rw [hk]
    simp only [Bool.and_eq_true, decide_eq_true_eq] at hb ⊢
    obtain ⟨⟨⟨⟨h0, h1⟩, h2⟩, h3⟩, h4⟩ := hb
    cases hz : (tyOf P el).zero with
    | none => rw [hz] at h0; cases h0
    | some z => exact ⟨h1, h2, h3, h4⟩
  · cases hb
def bLen (T : TI) (x : AV) (h : AHeap) : Bool :=
  tkLen T.k x && (match x with
  | .map l => match h l with
    | some (.map _ _ _ _) => true
    | _ => false
  | _ => true)
theorem bLen_ok {T : TI} {x : AV} {h : AHeap} {n : Nat} (hb : bLen T x h = true) : (withPre (tkLen T.k x = true) (sLen x h n)).pre := by
  unfold bLen at hb
  simp only [Bool.and_eq_true] at hb
  refine ⟨hb.1, ?_⟩
  obtain ⟨h1, h2⟩ := hb
  unfold sLen
  split at h2
  · split at h2
    · rename_i hl; simp only [hl]
    · cases h2
  · rename_i hno
    unfold tkLen at h1
    split at h1 <;> first | trivial | (cases h1; done) | (exact (hno _ rfl).elim)
def bMM (x y : AV) : Bool :=
  match x, y with
  | .d (.int _ _), .d (.int _ _) => true
  | _, _ => false
theorem bMM_ok {m : Bool} {x y : AV} {h : AHeap} {n : Nat} (hb : bMM x y = true) : (sMM m x y h n).pre := by
  unfold bMM at hb; unfold sMM; split at hb <;> first | trivial | cases hb
def bAppend (P : Program) (T T2 : TI) (s x : AV) (h : AHeap) : Bool :=
  match T.k, srcRows h x with
  | .slice el, some src => isSlOf el T2.k && Nat.blt 0 (tyOf P el).size && Nat.blt 0 (tyOf P el).bytes && isS (tyOf P el).zero && src.all (fun row => Nat.beq row.length (tyOf P el).size) &&
    (match s with
    | .d .nilS => Nat.ble (src.length * (tyOf P el).bytes) 140737488355328
    | .arr l v i len => match h l with
      | some (.cells v' sz rows) => Nat.beq v v' && Nat.beq (i + len) rows.length && Nat.beq sz (tyOf P el).size && Nat.ble ((len + src.length) * (tyOf P el).bytes) 140737488355328
      | _ => false
    | _ => false)
  | _, _ => false
theorem bAppend_ok {P : Program} {T T2 : TI} {s x : AV} {h : AHeap} {n : Nat} (hb : bAppend P T T2 s x h = true) : (sAppend P T T2 s x h n).pre := by
  unfold bAppend at hb; unfold sAppend
  split at hb
  · rename_i el src hk hs
    rw [hk, hs]
    simp only [Bool.and_eq_true] at hb ⊢
    obtain ⟨⟨⟨⟨⟨h1, h2⟩, h3⟩, h4⟩, h5⟩, h6⟩ := hb
    have g4 : (tyOf P el).zero.isSome = true := by cases hz : (tyOf P el).zero with
      | none => rw [hz] at h4; cases h4
      | some z => rfl
    have g5 : ∀ row, row ∈ src → row.length = (tyOf P el).size := fun row hr => Nat.eq_of_beq_eq_true (List.all_eq_true.1 h5 row hr)
    split at h6
    · exact ⟨isSlOf_ok h1, blt_ok h2, blt_ok h3, g4, g5, ble_ok h6⟩
    · split at h6
      · rename_i hl
        simp only [Bool.and_eq_true] at h6
        simp only [hl]
        obtain ⟨⟨⟨q1, q2⟩, q3⟩, q4⟩ := h6
        exact ⟨Nat.eq_of_beq_eq_true q1, Nat.eq_of_beq_eq_true q2, Nat.eq_of_beq_eq_true q3, isSlOf_ok h1, blt_ok h2, blt_ok h3, g4, g5, ble_ok q4⟩
      · cases h6
    · cases h6
  · cases hb
def bBuild (P : Program) (T : TI) (parts : List (Nat × AV)) : Bool :=
  match T.zero, T.k with
  | some z, .strct fs => isS (fillA (offs fs) z parts)
  | some z, .array _ t => isS (fillA (fun i => some (i * (tyOf P t).size, (tyOf P t).size)) z parts) && isS (tyOf P t).zero
  | _, _ => false
theorem isS_ok {α : Type} {o : Option α} (h : isS o = true) : ∃ x, o = some x := by cases o with | none => cases h | some x => exact ⟨x, rfl⟩
theorem bBuild_ok {P : Program} {T : TI} {parts : List (Nat × AV)} {h : AHeap} {n : Nat} (hb : bBuild P T parts = true) : (sBuild P T parts h n).pre := by
  unfold bBuild at hb; unfold sBuild
  split at hb
  · rename_i h1 h2
    rw [h1, h2]
    obtain ⟨x, hx⟩ := isS_ok hb
    simp only [hx]
  · rename_i h1 h2
    rw [h1, h2]
    simp only [Bool.and_eq_true] at hb
    obtain ⟨x, hx⟩ := isS_ok hb.1
    obtain ⟨y, hy⟩ := isS_ok hb.2
    simp only [hx]
    rw [hy]; rfl
  · cases hb
def bBuildSlice (P : Program) (T : TI) (len : Nat) (parts : List (Nat × AV)) : Bool :=
  match T.k with
  | .slice el => match (tyOf P el).zero with
    | some z => isS (fillRows (tyOf P el).size (List.replicate len z) parts) && Nat.ble (len * (tyOf P el).size) 16777216
    | none => false
  | _ => false
theorem bBuildSlice_ok {P : Program} {T : TI} {len : Nat} {parts : List (Nat × AV)} {h : AHeap} {n : Nat} (hb : bBuildSlice P T len parts = true) : (sBuildSlice P T len parts h n).pre := by
  unfold bBuildSlice at hb; unfold sBuildSlice
  split at hb
  · rename_i h1
    rw [h1]
    simp only
    split at hb
    · rename_i z hz
      rw [hz]
      simp only [Bool.and_eq_true] at hb ⊢
      obtain ⟨x, hx⟩ := isS_ok hb.1
      simp only [hx]
      exact ble_ok hb.2
    · cases hb
  · cases hb
def bMakeMap (P : Program) (t : TypeId) : Bool :=
  match (tyOf P t).k with
  | .map kt _ => isS (keyTI P kt)
  | _ => false
theorem bMakeMap_ok {P : Program} {t : TypeId} {h : AHeap} {n : Nat} (hb : bMakeMap P t = true) : (sMakeMap P t h n).pre := by
  unfold bMakeMap at hb; unfold sMakeMap
  split at hb
  · rename_i h1
    rw [h1]
    obtain ⟨⟨g, kn⟩, hx⟩ := isS_ok hb
    simp only [hx]
  · cases hb
def bKey (o : Option (Bool × Nat)) (g' : Bool) (kn : Nat) (g : Bool) (len : Nat) : Bool :=
  match o with
  | some (a, m) => (a == g') && Nat.beq m kn && (g == g') && Nat.beq len kn
  | none => false
theorem bKey_ok {o : Option (Bool × Nat)} {g' : Bool} {kn : Nat} {g : Bool} {len : Nat} (hb : bKey o g' kn g len = true) : o = some (g', kn) ∧ g = g' ∧ len = kn := by
  unfold bKey at hb
  split at hb
  · simp only [Bool.and_eq_true, beq_iff_eq] at hb
    obtain ⟨⟨⟨h1, h2⟩, h3⟩, h4⟩ := hb
    exact ⟨by rw [h1, Nat.eq_of_beq_eq_true h2], h3, Nat.eq_of_beq_eq_true h4⟩
  · cases hb
def bLookup (P : Program) (t : TypeId) (x k : AV) (h : AHeap) : Bool :=
  match (tyOf P t).k, x, keyAV k with
  | .map kt el, .map l, some (g, ks) => match h l with
    | some (.map _ g' kn _) => isS (zvOf P el) && bKey (keyTI P kt) g' kn g ks.length
    | _ => false
  | _, _, _ => false
theorem bLookup_ok {P : Program} {t : TypeId} {x k : AV} {ok : Bool} {h : AHeap} {n : Nat} (hb : bLookup P t x k h = true) : (sLookup P t x k ok h n).pre := by
  unfold bLookup at hb; unfold sLookup
  split at hb
  · rename_i h1 h2
    rw [h1, h2]
    simp only
    split at hb
    · rename_i hl
      simp only [Bool.and_eq_true] at hb
      obtain ⟨z, hz⟩ := isS_ok hb.1
      rw [hl, hz]
      exact bKey_ok hb.2
    · cases hb
  · cases hb
def bMapUpdate (P : Program) (t : TypeId) (x k : AV) (h : AHeap) : Bool :=
  match (tyOf P t).k, x, keyAV k with
  | .map kt _, .map l, some (g, ks) => match h l with
    | some (.map false g' kn _) => bKey (keyTI P kt) g' kn g ks.length
    | _ => false
  | _, _, _ => false
theorem bMapUpdate_ok {P : Program} {t : TypeId} {x k v : AV} {h : AHeap} {n : Nat} (hb : bMapUpdate P t x k h = true) : (sMapUpdate P t x k v h n).pre := by
  unfold bMapUpdate at hb; unfold sMapUpdate
  split at hb
  · rename_i h1 h2
    rw [h1, h2]
    simp only
    split at hb
    · rename_i hl
      rw [hl]
      exact bKey_ok hb
    · cases hb
  · cases hb

def bStep (P : Program) (e : Operand → AV) (h : AHeap) : Op → Bool
  | .move _ => true
  | .assign _ => true
  | .pick c x y => bPick (e c) (e x) (e y)
  | .alloc t => isS (tyOf P t).zero
  | .box _ x => cellsOK (e x)
  | .build t parts => bBuild P (tyOf P t) (partsE e parts)
  | .buildSlice t len parts => bBuildSlice P (tyOf P t) len (partsE e parts)
  | .load t x => bLoad (tyOf P t) (e x) h
  | .store t x y => bStore (tyOf P t) (e x) (e y) h
  | .nilCheck x => bNilck (e x)
  | .binOp op t x y _ => bBin2 P op t (e x) (e y)
  | .makeMap t none => bMakeMap P t
  | .lookup t x k _ => bLookup P t (e x) (e k) h
  | .mapUpdate t x k _ => bMapUpdate P t (e x) (e k) h
  | .unOp op _ x => bUn op (e x)
  | .convert s t x => bConv (tyOf P s) (tyOf P t) (e x)
  | .makeFunc _ _ _ => true
  | .makeSlice t l c => bMakeSlice P (tyOf P t) (e l) (e c)
  | .slice t x lo hi mx => (match (tyOf P t).k with | .slice el => notO (tyOf P el).k | _ => false) && bSlice P (tyOf P t) (e x) (lo.map e) (hi.map e) (mx.map e) h
  | .fieldAddr t x f => bFieldAddr (tyOf P t) (e x) f
  | .field t x f => bField (tyOf P t) (e x) f
  | .indexAddr t x i => bIdx P (tyOf P t) (e x) (e i) h
  | .extract x i => bExtract (e x) i
  | .call ⟨.builtin b, args, ts⟩ => match b, args.toList, ts.toList with
    | .len, [x], [t] => bLen (tyOf P t) (e x) h
    | .max, [x, y], _ => bMM (e x) (e y)
    | .min, [x, y], _ => bMM (e x) (e y)
    | .append, [s, x], [t, t2] => bAppend P (tyOf P t) (tyOf P t2) (e s) (e x) h
    | _, _, _ => false
  | _ => false
theorem bStep_ok {P : Program} {e : Operand → AV} {h : AHeap} {n : Nat} {op : Op} (hb : bStep P e h op = true) : (step P e h n op).pre := by
  cases op <;> simp only [bStep] at hb <;> try trivial
  case pick => exact bPick_ok hb
  case alloc =>
    obtain ⟨z, hz⟩ := isS_ok hb
    simp only [step, sAlloc, hz]
  case build => exact bBuild_ok hb
  case buildSlice => exact bBuildSlice_ok hb
  case load => exact bLoad_ok hb
  case store => exact bStore_ok hb
  case nilCheck => exact bNilck_ok hb
  case binOp => exact bBin2_ok hb
  case makeMap t r =>
    cases r with
    | none => exact bMakeMap_ok hb
    | some r => cases hb
  case lookup => exact bLookup_ok hb
  case mapUpdate => exact bMapUpdate_ok hb
  case unOp => exact bUn_ok hb
  case convert => exact bConv_ok hb
  case makeSlice => exact bMakeSlice_ok hb
  case slice t x lo hi mx =>
    simp only [Bool.and_eq_true] at hb
    refine ⟨?_, bSlice_ok hb.2⟩
    have := hb.1
    split at this
    · rename_i hk; rw [hk]; exact notO_ok this
    · cases this
  case fieldAddr => exact bFieldAddr_ok hb
  case field => exact bField_ok hb
  case indexAddr => exact bIdx_ok hb
  case extract => exact bExtract_ok hb
  case call c =>
    obtain ⟨ce, args, ts⟩ := c
    cases ce with
    | builtin b =>
      simp only at hb
      simp only [step, sBuiltin]
      split at hb
      · rename_i h1 h2; rw [h1, h2]; exact bLen_ok hb
      · rename_i h1; rw [h1]; exact bMM_ok hb
      · rename_i h1; rw [h1]; exact bMM_ok hb
      · rename_i h1 h2; rw [h1, h2]; exact bAppend_ok hb
      · cases hb
    | value f => cases hb
    | invoke f m => cases hb

/-- Which object an operation changes. -/
def effN (e : Operand → AV) (n : Nat) : Op → Option Nat
  | .alloc _ => some n
  | .box _ _ => some n
  | .buildSlice _ _ _ => some n
  | .makeSlice _ _ _ => some n
  | .makeMap _ _ => some n
  | .store _ x _ => nameOf (e x)
  | .mapUpdate _ x _ _ => nameOf (e x)
  | .call ⟨.builtin .append, args, _⟩ => match args.toList with
    | s :: _ => match nameOf (e s) with
      | some l => some l
      | none => some n
    | [] => none
  | _ => none
theorem eff_sound {P : Program} {e : Operand → AV} {h : AHeap} {n : Nat} {op : Op} (hp : (step P e h n op).pre) :
    match effN e n op with
    | none => (step P e h n op).h = h
    | some l => (step P e h n op).h = upd h l ((step P e h n op).h l) := by
  have key : ∀ (l : Nat) (o : Option AOb), upd h l o = upd h l (upd h l o l) := fun l o => by rw [upd_same]
  cases hq : isQuiet op with
  | true =>
    have h1 := (quiet_step (P := P) (e := e) (h := h) (n := n) hq).1
    cases op <;> simp only [isQuiet] at hq <;> first | (cases hq; done) | (simp only [effN]; exact h1) | skip
    rename_i c
    obtain ⟨ce, args, ts⟩ := c
    cases ce with
    | builtin b => cases b <;> simp only at hq <;> first | (cases hq; done) | (simp only [effN]; exact h1)
    | value f => cases hq
    | invoke f m => cases hq
  | false =>
    cases op <;> simp only [isQuiet] at hq <;> first | (cases hq; done) | skip
    all_goals simp only [step] at hp
    all_goals first | exact hp.elim | skip
    all_goals simp only [effN, step]
    case alloc t => simp only [sAlloc] at hp ⊢; split at hp <;> first | exact hp.elim | (rename_i z hz; exact key _ _)
    case box t x => exact key _ _
    case buildSlice t len parts =>
      simp only [sBuildSlice] at hp ⊢
      repeat' split at hp
      all_goals first | exact hp.elim | skip
      rename_i hz _ _ hf
      exact key _ _
    case makeSlice t l c =>
      simp only [sMakeSlice] at hp ⊢
      repeat' split at hp
      all_goals first | exact hp.elim | exact key _ _
    case makeMap t r =>
      cases r with
      | some r => exact hp.elim
      | none =>
        simp only [step, sMakeMap] at hp ⊢
        repeat' split at hp
        all_goals first | exact hp.elim | exact key _ _
    case store t x y =>
      simp only [sStore] at hp ⊢
      split at hp
      · rename_i hx
        rw [hx]
        simp only [nameOf]
        split at hp
        · rename_i hl; simp only; exact key _ _
        · exact hp.elim
      · exact hp.elim
    case mapUpdate t x k v =>
      simp only [sMapUpdate] at hp ⊢
      split at hp
      · rename_i h1 hx h2
        rw [hx]
        simp only [nameOf]
        split at hp
        · rename_i hl; simp only; exact key _ _
        · exact hp.elim
      · exact hp.elim
    case call c =>
      obtain ⟨ce, args, ts⟩ := c
      cases ce with
      | builtin b =>
        simp only [step, sBuiltin] at hp ⊢
        split at hp
        · cases hq
        · cases hq
        · cases hq
        · rename_i s x t t2 h1 h2
          simp only [h1]
          simp only [sAppend] at hp ⊢
          split at hp
          · rename_i hk hs
            split at hp
            · rename_i hes
              rw [hes]; simp only [nameOf]; exact key _ _
            · rename_i hes
              rw [hes]; simp only [nameOf]
              split at hp
              · rename_i hl; simp only; exact key _ _
              · exact hp.elim
            · exact hp.elim
          · exact hp.elim
        · exact hp.elim
      | value f => exact hp.elim
      | invoke f m => exact hp.elim
end Go.AM
