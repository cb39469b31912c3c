/- An abstract machine over the model: numbers, comparisons, addresses, slices' headers. -/
import Derived.Test.YtdocdnmbmikefaaAmP
set_option linter.unusedVariables false
set_option linter.unusedSimpArgs false
namespace Go.AM
section
variable {P : Program} {L : Link} {a : Act} {w : World} {o : Oper} {h : AHeap} {n : Nat} {e : Operand → AV}

def sNil (x : AV) (h : AHeap) (n : Nat) : R1 :=
  match x with
  | .rp _ => ⟨True, x, h, n⟩
  | .ptr _ _ _ _ => ⟨True, x, h, n⟩
  | _ => bad h n
theorem snd_nilCheck {x : Operand} (ho : o.op = .nilCheck x) (hg : Good L h n w) (hx : V L (e x) (a.eval x)) : Snd P L a w o (sNil (e x) h n) := by
  unfold sNil
  split
  · rename_i cs hex
    refine Snd.quiet hg fun _ => ⟨rfl, rfl, a.eval x, ?_, hx⟩
    rw [hex] at hx
    unfold execOp
    simp only [ho]
    generalize a.eval x = u at hx ⊢
    cases hx; rfl
  · rename_i hex
    refine Snd.quiet hg fun _ => ⟨rfl, rfl, a.eval x, ?_, hx⟩
    rw [hex] at hx
    unfold execOp
    simp only [ho]
    generalize a.eval x = u at hx ⊢
    cases hx; rfl
  · exact Snd.bad

/-! #### numbers -/
def bitsOp (op : BinOp) (k : IntKind) (x y : Int) : Int :=
  match op with
  | .and => k.wrap (BitVec.ofInt k.bits x &&& BitVec.ofInt k.bits y).toNat
  | .or => k.wrap (BitVec.ofInt k.bits x ||| BitVec.ofInt k.bits y).toNat
  | .xor => k.wrap (BitVec.ofInt k.bits x ^^^ BitVec.ofInt k.bits y).toNat
  | _ => k.wrap (BitVec.ofInt k.bits x &&& ~~~ BitVec.ofInt k.bits y).toNat
def intOp (op : BinOp) (k : IntKind) (x y : Int) : Prop × D :=
  match op with
  | .add => (True, .int k (k.wrap (x + y)))
  | .sub => (True, .int k (k.wrap (x - y)))
  | .mul => (True, .int k (k.wrap (x * y)))
  | .quo => (y ≠ 0, .int k (k.wrap (x.tdiv y)))
  | .rem => (y ≠ 0, .int k (x.tmod y))
  | .and => (True, .int k (bitsOp .and k x y))
  | .or => (True, .int k (bitsOp .or k x y))
  | .xor => (True, .int k (bitsOp .xor k x y))
  | .andNot => (True, .int k (bitsOp .andNot k x y))
  | .eql => (True, .bool (decide (x = y)))
  | .neq => (True, .bool (!decide (x = y)))
  | .lss => (True, .bool (decide (x < y)))
  | .leq => (True, .bool (decide (x ≤ y)))
  | .gtr => (True, .bool (decide (y < x)))
  | .geq => (True, .bool (decide (y ≤ x)))
  | _ => (False, .nilS)
theorem int_run (op : BinOp) (t : TypeId) (x y : Operand) (k : IntKind) (m n : Int) (hp : (intOp op k m n).1) : ∃ u, (do eqGuard op t x y (.int k m) (.int k n); Go.binOp op t (.int k m) (.int k n)).run P w = .ok u w ∧ DV L.Rd (intOp op k m n).2 u := by
  cases op
  case shl | shr => exact hp.elim
  case quo => exact ⟨.int k (k.wrap (m.tdiv n)), by simp [eqGuard, Go.binOp, Op.intDiv]; intro h0; exact absurd h0 hp, .int _ _⟩
  case rem => exact ⟨.int k (m.tmod n), by simp [eqGuard, Go.binOp, Op.intDiv]; intro h0; exact absurd h0 hp, .int _ _⟩
  case eql => exact ⟨.bool (m == n), by simp [eqGuard, Go.binOp, Op.intCmp], by rw [show (m == n) = decide (m = n) from rfl]; exact .bool _⟩
  case neq => exact ⟨.bool (m != n), by simp [eqGuard, Go.binOp, Op.intCmp], by rw [show (m != n) = !decide (m = n) from rfl]; exact .bool _⟩
  case lss => exact ⟨.bool (decide (m < n)), by simp [eqGuard, Go.binOp, Op.intCmp], .bool _⟩
  case leq => exact ⟨.bool (decide (m ≤ n)), by simp [eqGuard, Go.binOp, Op.intCmp], .bool _⟩
  case gtr => exact ⟨.bool (decide (n < m)), by simp [eqGuard, Go.binOp, Op.intCmp], .bool _⟩
  case geq => exact ⟨.bool (decide (n ≤ m)), by simp [eqGuard, Go.binOp, Op.intCmp], .bool _⟩
  case add => exact ⟨.int k (k.wrap (m + n)), by simp [eqGuard, Go.binOp, Op.intArith], .int _ _⟩
  case sub => exact ⟨.int k (k.wrap (m - n)), by simp [eqGuard, Go.binOp, Op.intArith], .int _ _⟩
  case mul => exact ⟨.int k (k.wrap (m * n)), by simp [eqGuard, Go.binOp, Op.intArith], .int _ _⟩
  case and => exact ⟨_, by simp only [eqGuard, Go.binOp, Op.intBits, Sem.run_bind, Sem.run_pure, Result.andThen_ok, Sem.run_ite, ne_eq, not_true_eq_false, if_false]; rfl, .int _ _⟩
  case or => exact ⟨_, by simp only [eqGuard, Go.binOp, Op.intBits, Sem.run_bind, Sem.run_pure, Result.andThen_ok, Sem.run_ite, ne_eq, not_true_eq_false, if_false]; rfl, .int _ _⟩
  case xor => exact ⟨_, by simp only [eqGuard, Go.binOp, Op.intBits, Sem.run_bind, Sem.run_pure, Result.andThen_ok, Sem.run_ite, ne_eq, not_true_eq_false, if_false]; rfl, .int _ _⟩
  case andNot => exact ⟨_, by simp only [eqGuard, Go.binOp, Op.intBits, Sem.run_bind, Sem.run_pure, Result.andThen_ok, Sem.run_ite, ne_eq, not_true_eq_false, if_false]; rfl, .int _ _⟩

def shOp (op : BinOp) (k : IntKind) (x y : Int) : Prop × D :=
  match op with
  | .shl => (0 ≤ y, .int k (k.wrap (x * 2 ^ (min y.toNat k.bits))))
  | .shr => (0 ≤ y, .int k (x.fdiv (2 ^ (min y.toNat k.bits))))
  | _ => (False, .nilS)
theorem sh_run (op : BinOp) (t : TypeId) (x y : Operand) (k k' : IntKind) (m n : Int) (hp : (shOp op k m n).1) : ∃ u, (do eqGuard op t x y (.int k m) (.int k' n); Go.binOp op t (.int k m) (.int k' n)).run P w = .ok u w ∧ DV L.Rd (shOp op k m n).2 u := by
  cases op <;> try exact hp.elim
  · have hp' : 0 ≤ n := hp
    exact ⟨.int k (k.wrap (m * 2 ^ (min n.toNat k.bits))), by simp [eqGuard, Go.binOp, Op.shift]; intro h0; omega, .int _ _⟩
  · have hp' : 0 ≤ n := hp
    exact ⟨.int k (m.fdiv (2 ^ (min n.toNat k.bits))), by simp [eqGuard, Go.binOp, Op.shift]; intro h0; omega, .int _ _⟩

theorem V_int {k : IntKind} {m : Int} {u : Value} (h : V L (.d (.int k m)) u) : u = .int k m := by cases h with | d hd => cases hd; rfl
theorem V_bool {b : Bool} {u : Value} (h : V L (.d (.bool b)) u) : u = .bool b := by cases h with | d hd => cases hd; rfl
theorem V_str {s : ByteArray} {u : Value} (h : V L (.d (.str s)) u) : u = .string s := by cases h with | d hd => cases hd; rfl
theorem V_nilS {u : Value} (h : V L (.d .nilS) u) : u = .slice none 0 0 := by cases h with | d hd => cases hd; rfl
theorem V_nilP {u : Value} (h : V L (.d .nilP) u) : u = .pointer none := by cases h with | d hd => cases hd; rfl

def boolOp (op : BinOp) (x y : Bool) : Prop × D :=
  match op with
  | .eql => (True, .bool (x == y))
  | .neq => (True, .bool (x != y))
  | _ => (False, .nilS)

/-- Cells of whole numbers and bools, one against the other. -/
def cellsEq : List AV → List AV → Prop × Bool
  | [], [] => (True, true)
  | .d (.int k x) :: r, .d (.int k' y) :: q => (k = k' ∧ (cellsEq r q).1, decide (x = y) && (cellsEq r q).2)
  | .d (.bool x) :: r, .d (.bool y) :: q => ((cellsEq r q).1, (x == y) && (cellsEq r q).2)
  | _, _ => (False, false)

/-- Against nil. -/
def isNil : AV → Prop × Bool
  | .d .nilS => (True, true)
  | .d .nilP => (True, true)
  | .d .nilM => (True, true)
  | .d .nilF => (True, true)
  | .d .nilI => (True, true)
  | .d .roZ => (True, false)
  | .d (.ro xs) => (xs ≠ [], false)
  | .arr _ _ _ len => (len ≠ 0, false)
  | .rp _ => (True, false)
  | .ptr _ _ _ _ => (True, false)
  | .map _ => (True, false)
  | .fn _ _ _ => (True, false)
  | _ => (False, false)
def nilLit : AV → Bool
  | .d .nilS => true
  | .d .nilP => true
  | .d .nilM => true
  | .d .nilF => true
  | _ => false
inductive NilK | s | p | m | f | none
deriving DecidableEq
def nilKind : AV → NilK
  | .d .nilS => .s | .d .roZ => .s | .d (.ro _) => .s | .arr _ _ _ _ => .s
  | .d .nilP => .p | .rp _ => .p | .ptr _ _ _ _ => .p
  | .d .nilM => .m | .map _ => .m
  | .d .nilF => .f | .fn _ _ _ => .f
  | _ => .none
def tkNil : TK → NilK
  | .slice _ => .s | .pointer _ => .p | .map _ _ => .m | _ => .none

def sBin (P : Program) (op : BinOp) (t : TypeId) (x y : AV) (h : AHeap) (n : Nat) : R1 :=
  match x, y with
  | .d (.int k m), .d (.int k' m') => match op with
    | .shl => ⟨(shOp .shl k m m').1, .d (shOp .shl k m m').2, h, n⟩
    | .shr => ⟨(shOp .shr k m m').1, .d (shOp .shr k m m').2, h, n⟩
    | op => ⟨k = k' ∧ (intOp op k m m').1, .d (intOp op k m m').2, h, n⟩
  | .d (.bool b), .d (.bool b') => ⟨(tyOf P t).k = .bool ∧ (boolOp op b b').1, .d (boolOp op b b').2, h, n⟩
  | x, .d .nilS => match op with
    | .eql => ⟨(∃ el, (tyOf P t).k = .slice el) ∧ nilKind x = .s ∧ (isNil x).1, .d (.bool (isNil x).2), h, n⟩
    | .neq => ⟨(∃ el, (tyOf P t).k = .slice el) ∧ nilKind x = .s ∧ (isNil x).1, .d (.bool (!(isNil x).2)), h, n⟩
    | _ => bad h n
  | x, .d .nilP => match op with
    | .eql => ⟨(∃ el, (tyOf P t).k = .pointer el) ∧ nilKind x = .p ∧ (isNil x).1, .d (.bool (isNil x).2), h, n⟩
    | .neq => ⟨(∃ el, (tyOf P t).k = .pointer el) ∧ nilKind x = .p ∧ (isNil x).1, .d (.bool (!(isNil x).2)), h, n⟩
    | _ => bad h n
  | _, _ => bad h n
theorem nil_s {t : TypeId} {el : TypeId} (hk : (tyOf P t).k = .slice el) {x : AV} {u : Value} (hx : V L x u) (h1 : nilKind x = .s) (h2 : (isNil x).1) : ∃ a l c, u = .slice a l c ∧ a.isNone = (isNil x).2 := by
  cases hx with
  | d hd => cases hd <;> first | (simp [nilKind] at h1; done) | exact ⟨_, _, _, rfl, rfl⟩ | (simp [isNil] at h2; done)
  | arr => exact ⟨_, _, _, rfl, rfl⟩
  | arrN => simp [isNil] at h2
  | arrE => simp [isNil] at h2
  | _ => simp [nilKind] at h1
theorem nil_p {x : AV} {u : Value} (hx : V L x u) (h1 : nilKind x = .p) (h2 : (isNil x).1) : ∃ a, u = .pointer a ∧ a.isNone = (isNil x).2 := by
  cases hx with
  | d hd => cases hd <;> first | (simp [nilKind] at h1; done) | exact ⟨_, rfl, rfl⟩ | (simp [isNil] at h2; done)
  | rp => exact ⟨_, rfl, rfl⟩
  | ptr => exact ⟨_, rfl, rfl⟩
  | _ => simp [nilKind] at h1
theorem run_eq_slice {t : TypeId} {el : TypeId} (hu : P.underlying t = some (.slice el)) (ad : Option Addr) (l c : Nat) : (Op.equal t (.slice ad l c) (.slice none 0 0)).run P w = .ok ad.isNone w := by
  unfold Op.equal Op.maxDepth
  rw [show 10000 = 9999 + 1 from rfl, Op.equalIn, Sem.run_bind, run_underlying hu, Result.andThen_ok]
  cases ad <;> rfl
theorem run_eq_ptr {t : TypeId} {el : TypeId} (hu : P.underlying t = some (.pointer el)) (ad : Option Addr) : (Op.equal t (.pointer ad) (.pointer none)).run P w = .ok ad.isNone w := by
  unfold Op.equal Op.maxDepth
  rw [show 10000 = 9999 + 1 from rfl, Op.equalIn, Sem.run_bind, run_underlying hu, Result.andThen_ok]
  cases ad <;> rfl
theorem run_guard_slice (op : BinOp) (t : TypeId) (x y : Operand) (ad : Option Addr) (l c : Nat) : (eqGuard op t x y (.slice ad l c) (.slice none 0 0)).run P w = .ok () w := by
  unfold eqGuard; cases op <;> rfl
theorem run_guard_ptr (op : BinOp) (t : TypeId) (x y : Operand) (ad : Option Addr) : (eqGuard op t x y (.pointer ad) (.pointer none)).run P w = .ok () w := by
  unfold eqGuard; cases op <;> rfl
theorem snd_bin {op : BinOp} {t yt : TypeId} {x y : Operand} (ho : o.op = .binOp op t x y yt) (hg : Good L h n w) (hx : V L (e x) (a.eval x)) (hy : V L (e y) (a.eval y)) : Snd P L a w o (sBin P op t (e x) (e y) h n) := by
  have hrun : ∀ u, (do eqGuard op t x y (a.eval x) (a.eval y); Go.binOp op t (a.eval x) (a.eval y)).run P w = .ok u w → (execOp a.eval o).run P w = .ok (.value u) w := fun u hu => by
    unfold execOp
    simp only [ho]
    rw [Sem.run_bind, hu]; rfl
  revert hx hy hrun
  generalize a.eval x = u
  generalize a.eval y = v
  intro hx hy hrun
  unfold sBin
  split
  · rename_i k m k' m' h1 h2
    rw [h1] at hx
    rw [h2] at hy
    obtain rfl := V_int hx
    obtain rfl := V_int hy
    split
    · exact Snd.quiet hg fun hp => by obtain ⟨u, h3, h4⟩ := sh_run (P := P) (w := w) (L := L) _ t x y k k' m m' hp; exact ⟨rfl, rfl, u, hrun u h3, .d h4⟩
    · exact Snd.quiet hg fun hp => by obtain ⟨u, h3, h4⟩ := sh_run (P := P) (w := w) (L := L) _ t x y k k' m m' hp; exact ⟨rfl, rfl, u, hrun u h3, .d h4⟩
    · exact Snd.quiet hg fun hp => by obtain ⟨rfl, hp⟩ := hp; obtain ⟨u, h3, h4⟩ := int_run (P := P) (w := w) (L := L) _ t x y k m m' hp; exact ⟨rfl, rfl, u, hrun u h3, .d h4⟩
  · rename_i b b' h1 h2
    rw [h1] at hx
    rw [h2] at hy
    obtain rfl := V_bool hx
    obtain rfl := V_bool hy
    refine Snd.quiet hg fun hp => ⟨rfl, rfl, ?_⟩
    obtain ⟨hk, hp⟩ := hp
    have hu := ty_bool hk
    cases op <;> try exact hp.elim
    · exact ⟨.bool (b == b'), hrun _ (by simp [eqGuard, run_eql_bool w t b b' hu]), .d (.bool _)⟩
    · exact ⟨.bool (b != b'), hrun _ (by simp [eqGuard, run_neq_bool w t b b' hu, bne]), .d (.bool _)⟩
  · rename_i h2
    rw [h2] at hy
    obtain rfl := V_nilS hy
    split
    · refine Snd.quiet hg fun hp => ⟨rfl, rfl, ?_⟩
      obtain ⟨⟨el, hk⟩, h3, h4⟩ := hp
      obtain ⟨ad, l, c, rfl, h5⟩ := nil_s hk hx h3 h4
      refine ⟨.bool (isNil (e x)).2, hrun _ ?_, .d (.bool _)⟩
      rw [← h5]
      rw [Sem.run_bind, run_guard_slice, Result.andThen_ok]
      simp only [Go.binOp, Sem.run_bind, run_eq_slice (ty_slice hk), Result.andThen_ok, Sem.run_pure]
    · refine Snd.quiet hg fun hp => ⟨rfl, rfl, ?_⟩
      obtain ⟨⟨el, hk⟩, h3, h4⟩ := hp
      obtain ⟨ad, l, c, rfl, h5⟩ := nil_s hk hx h3 h4
      refine ⟨.bool (!(isNil (e x)).2), hrun _ ?_, .d (.bool _)⟩
      rw [← h5]
      rw [Sem.run_bind, run_guard_slice, Result.andThen_ok]
      simp only [Go.binOp, Sem.run_bind, run_eq_slice (ty_slice hk), Result.andThen_ok, Sem.run_pure]
    · exact Snd.bad
  · rename_i h2
    rw [h2] at hy
    obtain rfl := V_nilP hy
    split
    · refine Snd.quiet hg fun hp => ⟨rfl, rfl, ?_⟩
      obtain ⟨⟨el, hk⟩, h3, h4⟩ := hp
      obtain ⟨ad, rfl, h5⟩ := nil_p hx h3 h4
      refine ⟨.bool (isNil (e x)).2, hrun _ ?_, .d (.bool _)⟩
      rw [← h5]
      rw [Sem.run_bind, run_guard_ptr, Result.andThen_ok]
      simp only [Go.binOp, Sem.run_bind, run_eq_ptr (ty_pointer hk), Result.andThen_ok, Sem.run_pure]
    · refine Snd.quiet hg fun hp => ⟨rfl, rfl, ?_⟩
      obtain ⟨⟨el, hk⟩, h3, h4⟩ := hp
      obtain ⟨ad, rfl, h5⟩ := nil_p hx h3 h4
      refine ⟨.bool (!(isNil (e x)).2), hrun _ ?_, .d (.bool _)⟩
      rw [← h5]
      rw [Sem.run_bind, run_guard_ptr, Result.andThen_ok]
      simp only [Go.binOp, Sem.run_bind, run_eq_ptr (ty_pointer hk), Result.andThen_ok, Sem.run_pure]
    · exact Snd.bad
  · exact Snd.bad

def sUn (op : UnOp) (x : AV) (h : AHeap) (n : Nat) : R1 :=
  match op, x with
  | .neg, .d (.int k m) => ⟨True, .d (.int k (k.wrap (0 - m))), h, n⟩
  | .not, .d (.bool b) => ⟨True, .d (.bool (!b)), h, n⟩
  | .xor, .d (.int k m) => ⟨True, .d (.int k (bitsOp .xor k (if k.signed then -1 else k.max) m)), h, n⟩
  | _, _ => bad h n
theorem snd_un {op : UnOp} {t : TypeId} {x : Operand} (ho : o.op = .unOp op t x) (hg : Good L h n w) (hx : V L (e x) (a.eval x)) : Snd P L a w o (sUn op (e x) h n) := by
  have hrun : ∀ u, (Op.unary op (a.eval x)).run P w = .ok u w → (execOp a.eval o).run P w = .ok (.value u) w := fun u hu => by
    unfold execOp
    simp only [ho]
    rw [Sem.run_bind, hu]; rfl
  revert hx hrun
  generalize a.eval x = u
  intro hx hrun
  unfold sUn
  split
  · rename_i k m h1
    rw [h1] at hx
    obtain rfl := V_int hx
    exact Snd.quiet hg fun _ => ⟨rfl, rfl, _, hrun _ rfl, .d (.int _ _)⟩
  · rename_i b h1
    rw [h1] at hx
    obtain rfl := V_bool hx
    exact Snd.quiet hg fun _ => ⟨rfl, rfl, _, hrun _ rfl, .d (.bool _)⟩
  · rename_i k m h1
    rw [h1] at hx
    obtain rfl := V_int hx
    exact Snd.quiet hg fun _ => ⟨rfl, rfl, _, hrun _ rfl, .d (.int _ _)⟩
  · exact Snd.bad

def sConv (S T : TI) (x : AV) (h : AHeap) (n : Nat) : R1 :=
  match S.k, T.k, x with
  | .int _, .int k, .d (.int _ m) => ⟨True, .d (.int k (k.wrap m)), h, n⟩
  | _, _, _ => bad h n
theorem snd_conv {s t : TypeId} {x : Operand} (ho : o.op = .convert s t x) (hg : Good L h n w) (hx : V L (e x) (a.eval x)) : Snd P L a w o (sConv (tyOf P s) (tyOf P t) (e x) h n) := by
  unfold sConv
  split
  · rename_i k0 k k' m hk0 hk h1
    rw [h1] at hx
    have hx := V_int hx
    refine Snd.quiet hg fun _ => ⟨rfl, rfl, .int k (k.wrap m), ?_, .d (.int _ _)⟩
    unfold execOp
    simp [ho, hx, convert, run_underlying (ty_int hk0), run_underlying (ty_int hk), Conv.intToInt]
  · exact Snd.bad

theorem snd_makeFunc {f : Fn} {xs ys : Array Operand} (ho : o.op = .makeFunc f xs ys) (hg : Good L h n w) (hx : ∀ x, V L (e x) (a.eval x)) : Snd P L a w o ⟨True, .fn f (xs.toList.map e) (ys.toList.map e), h, n⟩ := by
  refine Snd.quiet hg fun _ => ⟨rfl, rfl, .func f (xs.map a.eval) (ys.map a.eval), ?_, ?_⟩
  · unfold execOp
    simp [ho, Instr.makeFunc]
  · have key : ∀ zs : Array Operand, ∀ j c, (zs.toList.map e)[j]? = some c → V L c ((zs.map a.eval).getD j undef) := fun zs j c hj => by
      rw [List.getElem?_map] at hj
      cases hz : zs.toList[j]? with
      | none => rw [hz] at hj; cases hj
      | some z =>
        rw [hz] at hj
        cases hj
        have : zs[j]? = some z := by simpa using hz
        simpa [Array.getD_eq_getD_getElem?, this] using hx z
    exact .fn _ _ _ _ _ (by simp) (by simp) (key xs) (key ys)

/-! #### addresses -/
def sFieldAddr (T : TI) (x : AV) (f : Nat) (h : AHeap) (n : Nat) : R1 :=
  match T.k with
  | .strct fs => match fs[f]? with
    | some (off, sz, _) => match x with
      | .rp cs => ⟨sz ≠ 0, .rp (cs.drop off), h, n⟩
      | .ptr l v i k => ⟨sz ≠ 0, .ptr l v i (k + off), h, n⟩
      | _ => bad h n
    | none => bad h n
  | _ => bad h n
theorem rp_drop {cs : List D} {b k : Nat} {f : Nat → Value} (hc : ∀ j c, cs[j]? = some c → cellR L.Rd b (k + j) = some (f j) ∧ DV L.Rd c (f j)) (m : Nat) : V L (.rp (cs.drop m)) (.pointer (some ⟨b, k + m, none⟩)) :=
  .rp _ b (k + m) (fun j => f (m + j)) fun j c hj => by
    rw [List.getElem?_drop] at hj
    have := hc (m + j) c hj
    rw [← Nat.add_assoc] at this
    exact this
theorem snd_fieldAddr {t : TypeId} {x : Operand} {f : Nat} (ho : o.op = .fieldAddr t x f) (hg : Good L h n w) (hx : V L (e x) (a.eval x)) : Snd P L a w o (sFieldAddr (tyOf P t) (e x) f h n) := by
  unfold sFieldAddr
  split
  · rename_i fs hk
    obtain ⟨gs, hu, hi, rfl⟩ := ty_strct hk
    split
    · rename_i off sz ag hf
      rw [List.getElem?_map] at hf
      cases hgf : gs.toList[f]? with
      | none => rw [hgf] at hf; cases hf
      | some g =>
        rw [hgf] at hf
        cases hf
        have hgf' : gs[f]? = some g := by simpa using hgf
        have hsz : (sizeOf g.type).run P w = .ok (P.cellsOf g.type) w := by
          cases hq : P.info? g.type with
          | none => exact absurd hq (hi g (List.mem_of_getElem? hgf)).1
          | some i => simp [sizeOf, typeInfo, hq, Program.cellsOf]
        have hrun : ∀ ad : Addr, P.cellsOf g.type ≠ 0 → a.eval x = .pointer (some ad) → (execOp a.eval o).run P w = .ok (.value (.pointer (some (ad.add g.offset)))) w := fun ad h0 ha => by
          unfold execOp
          simp [ho, ha, Instr.fieldAt, run_underlying hu, hgf', Instr.sureAddr, fieldPlace, hsz, h0]
        split
        · rename_i cs h1
          rw [h1] at hx
          refine Snd.quiet hg fun hp => ⟨rfl, rfl, ?_⟩
          generalize hae : a.eval x = u at hx
          cases hx with
          | rp _ b k fv hc => exact ⟨_, hrun _ hp hae, by rw [Addr_add]; exact rp_drop hc _⟩
        · rename_i l v i k h1
          rw [h1] at hx
          refine Snd.quiet hg fun hp => ⟨rfl, rfl, ?_⟩
          generalize hae : a.eval x = u at hx
          cases hx with
          | ptr _ _ hpl => exact ⟨_, hrun _ hp hae, by rw [Addr_add]; have := V.ptr i (k + g.offset) hpl; rw [← Nat.add_assoc] at this; exact this⟩
        · exact Snd.bad
    · exact Snd.bad
  · exact Snd.bad

def sField (T : TI) (x : AV) (f : Nat) (h : AHeap) (n : Nat) : R1 :=
  match T.k with
  | .strct fs => match fs[f]?, x with
    | some (off, sz, true), .agg cs => ⟨off + sz ≤ cs.length, .agg ((cs.drop off).take sz), h, n⟩
    | some (off, _, false), .agg cs => ⟨off < cs.length, cs.getD off .any, h, n⟩
    | _, _ => bad h n
  | _ => bad h n
theorem snd_field {t : TypeId} {x : Operand} {f : Nat} (ho : o.op = .field t x f) (hg : Good L h n w) (hx : V L (e x) (a.eval x)) : Snd P L a w o (sField (tyOf P t) (e x) f h n) := by
  unfold sField
  split
  · rename_i fs hk
    obtain ⟨gs, hu, hi, rfl⟩ := ty_strct hk
    have key : ∀ q, (gs.toList.map fun f => (f.offset, P.cellsOf f.type, aggOf P f.type))[f]? = some q → ∃ g, gs[f]? = some g ∧ q = (g.offset, P.cellsOf g.type, aggOf P g.type) ∧ P.info? g.type ≠ none ∧ P.underlying g.type ≠ none := fun q hq => by
      rw [List.getElem?_map] at hq
      cases hgf : gs.toList[f]? with
      | none => rw [hgf] at hq; cases hq
      | some g => rw [hgf] at hq; cases hq; exact ⟨g, by simpa using hgf, rfl, hi g (List.mem_of_getElem? hgf)⟩
    split
    · rename_i off sz cs hf h1
      obtain ⟨g, hg1, hg2, hg3⟩ := key _ hf
      simp only [Prod.mk.injEq] at hg2
      obtain ⟨rfl, rfl, hag⟩ := hg2
      rw [h1] at hx
      refine Snd.quiet hg fun hp => ⟨rfl, rfl, ?_⟩
      have hp' : g.offset + P.cellsOf g.type ≤ cs.length := hp
      generalize hae : a.eval x = u at hx
      cases hx with
      | agg _ us hs hv =>
        refine ⟨.agg (us.extract g.offset (g.offset + P.cellsOf g.type)), ?_, .agg _ _ (by simp; omega) fun j c hj => ?_⟩
        · unfold execOp
          cases hq : P.info? g.type with
          | none => exact absurd hq hg3.1
          | some i0 =>
            cases hu' : P.underlying g.type with
            | none => simp [aggOf, hu'] at hag
            | some d =>
              have hag' : d.isRow = true := by simpa [aggOf, hu'] using hag.symm
              cases d <;> simp [TypeDesc.isRow] at hag' <;> simp [ho, hae, Instr.field, run_underlying hu, hg1, part, isAgg, run_underlying hu', asAgg, sizeOf, typeInfo, hq, Program.cellsOf]
        · rw [List.getElem?_take] at hj
          split at hj
          · rename_i hlt
            rw [List.getElem?_drop] at hj
            have := hv _ c hj
            have hjl := (List.getElem?_eq_some_iff.1 hj).1
            have e1 : (us.extract g.offset (g.offset + P.cellsOf g.type)).getD j undef = us.getD (g.offset + j) undef := by
              simp [Array.getD_eq_getD_getElem?, Array.getElem?_extract]
              rw [if_pos (by omega)]
            rw [e1]; exact this
          · cases hj
    · rename_i off sz cs hf h1
      obtain ⟨g, hg1, hg2, hg3⟩ := key _ hf
      simp only [Prod.mk.injEq] at hg2
      obtain ⟨rfl, _, hag⟩ := hg2
      rw [h1] at hx
      refine Snd.quiet hg fun hp => ⟨rfl, rfl, ?_⟩
      have hp' : g.offset < cs.length := hp
      generalize hae : a.eval x = u at hx
      cases hx with
      | agg _ us hs hv =>
        have hlt : g.offset < us.size := by omega
        refine ⟨us.getD g.offset undef, ?_, hv _ _ (by rw [List.getD_eq_getElem?_getD, List.getElem?_eq_getElem hp']; rfl)⟩
        unfold execOp
        cases hq : P.info? g.type with
        | none => exact absurd hq hg3.1
        | some i0 =>
          cases hu' : P.underlying g.type with
          | none => exact absurd hu' hg3.2
          | some d =>
            have hag' : d.isRow = false := by simpa [aggOf, hu'] using hag.symm
            cases d <;> simp [TypeDesc.isRow] at hag' <;> simp [ho, hae, Instr.field, run_underlying hu, hg1, part, isAgg, run_underlying hu', asAgg, Array.getD_eq_getD_getElem?, hlt]
    · exact Snd.bad
  · exact Snd.bad
end
end Go.AM
