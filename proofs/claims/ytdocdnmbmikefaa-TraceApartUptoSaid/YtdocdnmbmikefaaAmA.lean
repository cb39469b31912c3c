/- An abstract machine over the model: values. Read-only data are plain lists; what the call itself makes lies in named objects. -/
import Derived.Orders
import Derived.Deep.MidRow
import Derived.Deep.AppendSrc
import Derived.Laws.MakeOwn
import Derived.Laws.StructEq
import Derived.Laws.Slices
set_option linter.unusedVariables false
set_option linter.unusedSimpArgs false
namespace Go.AM

/-- Data without places: what is read only. A slice's elements are rows of cells. -/
inductive D where
  | int (k : IntKind) (n : Int)
  | bool (b : Bool)
  | str (s : ByteArray)
  | nilS | nilP | nilM | nilF | nilI
  | roZ
  | ro (xs : List (List D))
deriving Inhabited

def cellR (R : Nat → Option Obj) (b o : Nat) : Option Value :=
  match R b with
  | some (.cells c _ _) => c[o]?
  | _ => none

theorem cellR_mono {R R' : Nat → Option Obj} (h : ∀ b o, R b = some o → R' b = some o) {b o : Nat} {v : Value} (hc : cellR R b o = some v) : cellR R' b o = some v := by
  unfold cellR at hc ⊢
  cases hb : R b with
  | none => simp [hb] at hc
  | some ob => rw [h b ob hb]; rw [hb] at hc; exact hc

inductive DV (R : Nat → Option Obj) : D → Value → Prop
  | int (k n) : DV R (.int k n) (.int k n)
  | bool (b) : DV R (.bool b) (.bool b)
  | str (s) : DV R (.str s) (.string s)
  | nilS : DV R .nilS (.slice none 0 0)
  | nilP : DV R .nilP (.pointer none)
  | nilM : DV R .nilM (.map none)
  | nilF : DV R .nilF .nilFunc
  | nilI : DV R .nilI .nilIface
  | roZ (a cap) : DV R .roZ (.slice (some a) 0 cap)
  | roN : DV R (.ro []) (.slice none 0 0)
  | roE (a cap) : DV R (.ro []) (.slice (some a) 0 cap)
  | ro (xs : List (List D)) (b o cap sz : Nat) (f : Nat → Nat → Value) (hl : xs.length ≤ cap) (hw : ∀ row, row ∈ xs → row.length = sz)
      (hc : ∀ i j, i < xs.length → j < sz → cellR R b (o + i * sz + j) = some (f i j))
      (hv : ∀ i j c row, xs[i]? = some row → row[j]? = some c → DV R c (f i j)) :
      DV R (.ro xs) (.slice (some ⟨b, o, none⟩) xs.length cap)

theorem DV.monoC {R R' : Nat → Option Obj} (h : ∀ b o v, cellR R b o = some v → cellR R' b o = some v) {x : D} {v : Value} (hv : DV R x v) : DV R' x v := by
  induction hv with
  | int k n => exact .int k n
  | bool b => exact .bool b
  | str s => exact .str s
  | nilS => exact .nilS
  | nilP => exact .nilP
  | nilM => exact .nilM
  | nilF => exact .nilF
  | nilI => exact .nilI
  | roZ a cap => exact .roZ a cap
  | roN => exact .roN
  | roE a cap => exact .roE a cap
  | ro xs b o cap sz f hl hw hc _ ih => exact .ro xs b o cap sz f hl hw (fun i j hi hj => h _ _ _ (hc i j hi hj)) ih
theorem DV.mono {R R' : Nat → Option Obj} (h : ∀ b o, R b = some o → R' b = some o) {x : D} {v : Value} (hv : DV R x v) : DV R' x v := hv.monoC fun _ _ _ hc => cellR_mono h hc

/-- Where an object lies: nowhere (a nil slice's), or in a block from an offset on, rows of 'sz' cells, room for 'cap' rows. -/
inductive Place where
  | nil
  | at (b o sz cap : Nat)

/-- What stays as it was at the start, memory aside. -/
structure Env where
  w : World
  base : Nat
structure Env.Ok (E : Env) (w : World) : Prop where
  os : w.os = E.w.os
  tape : w.tape = E.w.tape
  out : w.output = E.w.output
  fz : ∀ (b : Nat) c e z, E.base ≤ b → w.heap[b]? = some (.cells c e z) → z = (0, 0)
/-- What ties names to memory: the read-only blocks, each object's (and version's) place, each map's block. -/
structure Link where
  env : Env
  R : Nat → Option Obj
  fo : Nat → Bool
  pl : Nat → Nat → Option Place
  mp : Nat → Option Nat

/-- The blocks that may be read: not those that are only kept. -/
def Link.Rd (L : Link) : Nat → Option Obj := fun b => if L.fo b = true then none else L.R b
structure Ext (L L' : Link) : Prop where
  env : L'.env = L.env
  R : ∀ b o, L.R b = some o → L'.R b = some o
  fo : ∀ b o, L.R b = some o → L'.fo b = L.fo b
  pl : ∀ l v p, L.pl l v = some p → L'.pl l v = some p
  mp : ∀ l r, L.mp l = some r → L'.mp l = some r

theorem Ext.refl (L : Link) : Ext L L := ⟨rfl, fun _ _ h => h, fun _ _ _ => rfl, fun _ _ _ h => h, fun _ _ h => h⟩
theorem Ext.Rd {L L' : Link} (h : Ext L L') : ∀ b o, L.Rd b = some o → L'.Rd b = some o := fun b o hb => by
  unfold Link.Rd at hb ⊢
  split at hb
  · cases hb
  · rename_i hf
    rw [h.fo b o hb, if_neg hf]; exact h.R b o hb
theorem Ext.trans {A B C : Link} (h : Ext A B) (h' : Ext B C) : Ext A C :=
  ⟨h'.env.trans h.env, fun b o x => h'.R b o (h.R b o x), fun b o x => (h'.fo b o (h.R b o x)).trans (h.fo b o x), fun l v p x => h'.pl l v p (h.pl l v p x), fun l r x => h'.mp l r (h.mp l r x)⟩

/-- Values. -/
inductive AV where
  | d (x : D)
  | rp (cs : List D)
  | ptr (l v i off : Nat)
  | arr (l v i len : Nat)
  | map (l : Nat)
  | itr (l : Nat)
  | yld (l : Nat)
  | fn (f : Fn) (first captured : List AV)
  | agg (cs : List AV)
  | tup (vs : List AV)
  | opt (b : Bool) (v : AV)
  | any
deriving Inhabited

inductive V (L : Link) : AV → Value → Prop
  | d {x : D} {v : Value} (h : DV L.Rd x v) : V L (.d x) v
  | rp (cs : List D) (b o : Nat) (f : Nat → Value) (h : ∀ j c, cs[j]? = some c → cellR L.Rd b (o + j) = some (f j) ∧ DV L.Rd c (f j)) : V L (.rp cs) (.pointer (some ⟨b, o, none⟩))
  | ptr {l v b o sz cap : Nat} (i off : Nat) (h : L.pl l v = some (.at b o sz cap)) : V L (.ptr l v i off) (.pointer (some ⟨b, o + i * sz + off, none⟩))
  | arr {l v b o sz cap : Nat} (i len c : Nat) (h : L.pl l v = some (.at b o sz cap)) (hl : len ≤ c) (hc : i + c ≤ cap) : V L (.arr l v i len) (.slice (some ⟨b, o + i * sz, none⟩) len c)
  | arrN {l v : Nat} (h : L.pl l v = some .nil) : V L (.arr l v 0 0) (.slice none 0 0)
  | arrE {l v b o sz cap : Nat} (i : Nat) (a : Addr) (h : L.pl l v = some (.at b o sz cap)) : V L (.arr l v i 0) (.slice (some a) 0 0)
  | map {l r : Nat} (h : L.mp l = some r) : V L (.map l) (.map (some r))
  | itr {l r : Nat} (h : L.mp l = some r) : V L (.itr l) (.pointer (some ⟨r, 0, none⟩))
  | yld {l r : Nat} (h : L.mp l = some r) : V L (.yld l) (.func (.yield r) #[] #[])
  | fn (f : Fn) (xs ys : List AV) (us vs : Array Value) (h1 : us.size = xs.length) (h2 : vs.size = ys.length) (h3 : ∀ j c, xs[j]? = some c → V L c (us.getD j undef)) (h4 : ∀ j c, ys[j]? = some c → V L c (vs.getD j undef)) : V L (.fn f xs ys) (.func f us vs)
  | agg (cs : List AV) (us : Array Value) (h : us.size = cs.length) (hv : ∀ j c, cs[j]? = some c → V L c (us.getD j undef)) : V L (.agg cs) (.agg us)
  | tup (cs : List AV) (us : Array Value) (h : us.size = cs.length) (hv : ∀ j c, cs[j]? = some c → V L c (us.getD j undef)) : V L (.tup cs) (.tuple us)
  | optT {v : AV} {x : Value} (h : V L v x) : V L (.opt true v) x
  | optF (v : AV) : V L (.opt false v) undef
  | any (x : Value) : V L .any x

/-- The same but for blocks that hold no cells. -/
structure ExtC (L L' : Link) : Prop where
  R : ∀ b o v, cellR L.Rd b o = some v → cellR L'.Rd b o = some v
  pl : ∀ l v p, L.pl l v = some p → L'.pl l v = some p
  mp : ∀ l r, L.mp l = some r → L'.mp l = some r
theorem Ext.toC {L L' : Link} (h : Ext L L') : ExtC L L' := ⟨fun _ _ _ hc => cellR_mono h.Rd hc, h.pl, h.mp⟩
theorem V.monoC {L L' : Link} (h : ExtC L L') {x : AV} {v : Value} (hv : V L x v) : V L' x v := by
  induction hv with
  | d hd => exact .d (hd.monoC h.R)
  | rp cs b o f hc => exact .rp cs b o f fun j c hj => ⟨h.R _ _ _ (hc j c hj).1, (hc j c hj).2.monoC h.R⟩
  | ptr i off hp => exact .ptr i off (h.pl _ _ _ hp)
  | arr i len c hp hl hc => exact .arr i len c (h.pl _ _ _ hp) hl hc
  | arrN hp => exact .arrN (h.pl _ _ _ hp)
  | arrE i a hp => exact .arrE i a (h.pl _ _ _ hp)
  | map hp => exact .map (h.mp _ _ hp)
  | itr hp => exact .itr (h.mp _ _ hp)
  | yld hp => exact .yld (h.mp _ _ hp)
  | fn f xs ys us vs h1 h2 _ _ h3 h4 => exact .fn f xs ys us vs h1 h2 h3 h4
  | agg cs us hs _ ih => exact .agg cs us hs ih
  | tup cs us hs _ ih => exact .tup cs us hs ih
  | optT _ ih => exact .optT ih
  | optF v => exact .optF v
  | any x => exact .any x

theorem V.mono {L L' : Link} (h : Ext L L') {x : AV} {v : Value} (hv : V L x v) : V L' x v := hv.monoC h.toC

/-- Names below n alone. -/
inductive Sc (n : Nat) : AV → Prop
  | d (x) : Sc n (.d x)
  | rp (cs) : Sc n (.rp cs)
  | ptr {l} (v i off) (h : l < n) : Sc n (.ptr l v i off)
  | arr {l} (v i len) (h : l < n) : Sc n (.arr l v i len)
  | map {l} (h : l < n) : Sc n (.map l)
  | itr {l} (h : l < n) : Sc n (.itr l)
  | yld {l} (h : l < n) : Sc n (.yld l)
  | fn (f xs ys) (h : ∀ c, c ∈ xs → Sc n c) (h' : ∀ c, c ∈ ys → Sc n c) : Sc n (.fn f xs ys)
  | agg (cs) (h : ∀ c, c ∈ cs → Sc n c) : Sc n (.agg cs)
  | tup (cs) (h : ∀ c, c ∈ cs → Sc n c) : Sc n (.tup cs)
  | opt (b v) (h : b = true → Sc n v) : Sc n (.opt b v)
  | any : Sc n .any

theorem Sc_d (n x) : Sc n (.d x) ↔ True := ⟨fun _ => trivial, fun _ => .d x⟩
theorem Sc_rp (n x) : Sc n (.rp x) ↔ True := ⟨fun _ => trivial, fun _ => .rp x⟩
theorem Sc_any (n) : Sc n .any ↔ True := ⟨fun _ => trivial, fun _ => .any⟩
theorem Sc_ptr (n l v i off) : Sc n (.ptr l v i off) ↔ l < n := ⟨fun h => by cases h; assumption, .ptr v i off⟩
theorem Sc_arr (n l v i len) : Sc n (.arr l v i len) ↔ l < n := ⟨fun h => by cases h; assumption, .arr v i len⟩
theorem Sc_map (n l) : Sc n (.map l) ↔ l < n := ⟨fun h => by cases h; assumption, .map⟩
theorem Sc_itr (n l) : Sc n (.itr l) ↔ l < n := ⟨fun h => by cases h; assumption, .itr⟩
theorem Sc_yld (n l) : Sc n (.yld l) ↔ l < n := ⟨fun h => by cases h; assumption, .yld⟩
theorem Sc_fn (n f xs ys) : Sc n (.fn f xs ys) ↔ (∀ c, c ∈ xs → Sc n c) ∧ (∀ c, c ∈ ys → Sc n c) := ⟨fun h => by cases h; exact ⟨by assumption, by assumption⟩, fun h => .fn f xs ys h.1 h.2⟩
theorem Sc_agg (n cs) : Sc n (.agg cs) ↔ ∀ c, c ∈ cs → Sc n c := ⟨fun h => by cases h; assumption, .agg cs⟩
theorem Sc_tup (n cs) : Sc n (.tup cs) ↔ ∀ c, c ∈ cs → Sc n c := ⟨fun h => by cases h; assumption, .tup cs⟩
theorem Sc_opt (n b v) : Sc n (.opt b v) ↔ (b = true → Sc n v) := ⟨fun h => by cases h; assumption, .opt b v⟩

def Link.cut (L : Link) (n : Nat) : Link := { L with pl := fun l v => if l < n then L.pl l v else none, mp := fun l => if l < n then L.mp l else none }

theorem mem_of_getElem? {α : Type} {l : List α} {j : Nat} {c : α} (h : l[j]? = some c) : c ∈ l := List.mem_of_getElem? h

theorem V.cut {L : Link} {n : Nat} {x : AV} {v : Value} (hv : V L x v) (hs : Sc n x) : V (L.cut n) x v := by
  induction hv with
  | d hd => exact .d hd
  | rp cs b o f hc => exact .rp cs b o f hc
  | ptr i off hp => rw [Sc_ptr] at hs; exact .ptr i off (by simp only [Link.cut]; rw [if_pos hs, hp])
  | arr i len c hp hl hc => rw [Sc_arr] at hs; exact .arr i len c (by simp only [Link.cut]; rw [if_pos hs, hp]) hl hc
  | arrN hp => rw [Sc_arr] at hs; exact .arrN (by simp only [Link.cut]; rw [if_pos hs, hp])
  | arrE i a hp => rw [Sc_arr] at hs; exact .arrE i a (by simp only [Link.cut]; rw [if_pos hs, hp])
  | map hp => rw [Sc_map] at hs; exact .map (by simp only [Link.cut]; rw [if_pos hs, hp])
  | itr hp => rw [Sc_itr] at hs; exact .itr (by simp only [Link.cut]; rw [if_pos hs, hp])
  | yld hp => rw [Sc_yld] at hs; exact .yld (by simp only [Link.cut]; rw [if_pos hs, hp])
  | fn f xs ys us vs h1 h2 _ _ h3 h4 =>
    rw [Sc_fn] at hs
    exact .fn f xs ys us vs h1 h2 (fun j c hj => h3 j c hj (hs.1 c (mem_of_getElem? hj))) (fun j c hj => h4 j c hj (hs.2 c (mem_of_getElem? hj)))
  | agg cs us hl _ ih => rw [Sc_agg] at hs; exact .agg cs us hl fun j c hj => ih j c hj (hs c (mem_of_getElem? hj))
  | tup cs us hl _ ih => rw [Sc_tup] at hs; exact .tup cs us hl fun j c hj => ih j c hj (hs c (mem_of_getElem? hj))
  | optT _ ih => rw [Sc_opt] at hs; exact .optT (ih (hs rfl))
  | optF v => exact .optF v
  | any x => exact .any x

/-- Nothing is named from n on. -/
def Fresh (L : Link) (n : Nat) : Prop := ∀ l, n ≤ l → (∀ v, L.pl l v = none) ∧ L.mp l = none

theorem V.sc {L : Link} {n : Nat} (hf : Fresh L n) {x : AV} {v : Value} (hv : V L x v) : Sc n x := by
  have lt : ∀ l v p, L.pl l v = some p → l < n := fun l v p h => by
    rcases Nat.lt_or_ge l n with h' | h'
    · exact h'
    · rw [(hf l h').1 v] at h; cases h
  have ltm : ∀ l p, L.mp l = some p → l < n := fun l p h => by
    rcases Nat.lt_or_ge l n with h' | h'
    · exact h'
    · rw [(hf l h').2] at h; cases h
  have all : ∀ (cs : List AV), (∀ j c, cs[j]? = some c → Sc n c) → ∀ c, c ∈ cs → Sc n c := fun cs h c hc => by
    obtain ⟨j, hj⟩ := List.getElem?_of_mem hc
    exact h j c hj
  induction hv with
  | d hd => exact .d _
  | rp cs b o f hc => exact .rp _
  | ptr i off hp => exact .ptr _ _ _ (lt _ _ _ hp)
  | arr i len c hp hl hc => exact .arr _ _ _ (lt _ _ _ hp)
  | arrN hp => exact .arr _ _ _ (lt _ _ _ hp)
  | arrE i a hp => exact .arr _ _ _ (lt _ _ _ hp)
  | map hp => exact .map (ltm _ _ hp)
  | itr hp => exact .itr (ltm _ _ hp)
  | yld hp => exact .yld (ltm _ _ hp)
  | fn f xs ys us vs h1 h2 _ _ h3 h4 => exact .fn _ _ _ (all _ h3) (all _ h4)
  | agg cs us hs _ ih => exact .agg _ (all _ ih)
  | tup cs us hs _ ih => exact .tup _ (all _ ih)
  | optT _ ih => exact .opt _ _ fun _ => ih
  | optF v => exact .opt _ _ (fun h => by cases h)
  | any x => exact .any

end Go.AM
