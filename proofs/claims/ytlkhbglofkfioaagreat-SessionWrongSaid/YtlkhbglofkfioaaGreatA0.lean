/- The abstract machine: its values, its memory, its code and its run. Plain definitions; nothing here speaks of the model's machine. -/
import GoSem.Claim
set_option linter.unusedVariables false
namespace Go.AM
open Go

/-! ### trees keyed by numbers -/
inductive Tr (α : Type) where
  | lf
  | nd (l : Tr α) (v : Option α) (r : Tr α)

namespace Tr
variable {α : Type}
def get : Tr α → Nat → Option α
  | .lf, _ => none
  | .nd l v r, k => match k with
    | 0 => v
    | k + 1 => bif Nat.beq (k % 2) 0 then l.get (k / 2) else r.get (k / 2)
def setF : Nat → Tr α → Nat → α → Tr α
  | 0, t, _, _ => t
  | f + 1, t, k, x => match t with
    | .lf => (match k with
      | 0 => .nd .lf (some x) .lf
      | k + 1 => bif Nat.beq (k % 2) 0 then .nd (setF f .lf (k / 2) x) none .lf else .nd .lf none (setF f .lf (k / 2) x))
    | .nd l v r => (match k with
      | 0 => .nd l (some x) r
      | k + 1 => bif Nat.beq (k % 2) 0 then .nd (setF f l (k / 2) x) v r else .nd l v (setF f r (k / 2) x))
def set (t : Tr α) (k : Nat) (x : α) : Tr α := setF (k + 1) t k x

theorem get_lf (k : Nat) : (lf : Tr α).get k = none := by cases k <;> rfl
theorem get_setF : ∀ (f : Nat) (t : Tr α) (k : Nat) (x : α) (j : Nat), k < f → (setF f t k x).get j = if j = k then some x else t.get j := by
  intro f
  induction f with
  | zero => intro t k x j h; omega
  | succ f ih =>
    intro t k x j h
    have key : ∀ (l r : Tr α) (v : Option α), (match k with
      | 0 => Tr.nd l (some x) r
      | k + 1 => bif Nat.beq (k % 2) 0 then .nd (setF f l (k / 2) x) v r else .nd l v (setF f r (k / 2) x)).get j = if j = k then some x else (Tr.nd l v r).get j := by
      intro l r v
      cases k with
      | zero =>
        cases j with
        | zero => simp [get]
        | succ j => simp [get]
      | succ k =>
        by_cases hb : Nat.beq (k % 2) 0 = true
        · simp only [hb, cond_true]
          have hk : k % 2 = 0 := by simpa using hb
          cases j with
          | zero => simp [get]
          | succ j =>
            by_cases hj : Nat.beq (j % 2) 0 = true
            · have hj' : j % 2 = 0 := by simpa using hj
              simp only [get, hj, cond_true]
              rw [ih _ _ _ _ (by omega)]
              by_cases e : j / 2 = k / 2
              · rw [if_pos e, if_pos (by omega)]
              · rw [if_neg e, if_neg (by omega)]
            · have hj' : j % 2 ≠ 0 := by simpa using hj
              have hj2 : Nat.beq (j % 2) 0 = false := by rw [Bool.eq_false_iff]; exact hj
              simp only [get, hj2, cond_false]
              rw [if_neg (by omega)]
        · have hb2 : Nat.beq (k % 2) 0 = false := by rw [Bool.eq_false_iff]; exact hb
          simp only [hb2, cond_false]
          have hk : k % 2 ≠ 0 := by simpa using hb
          cases j with
          | zero => simp [get]
          | succ j =>
            by_cases hj : Nat.beq (j % 2) 0 = true
            · have hj' : j % 2 = 0 := by simpa using hj
              simp only [get, hj, cond_true]
              rw [if_neg (by omega)]
            · have hj' : j % 2 ≠ 0 := by simpa using hj
              have hj2 : Nat.beq (j % 2) 0 = false := by rw [Bool.eq_false_iff]; exact hj
              simp only [get, hj2, cond_false]
              rw [ih _ _ _ _ (by omega)]
              by_cases e : j / 2 = k / 2
              · rw [if_pos e, if_pos (by omega)]
              · rw [if_neg e, if_neg (by omega)]
    cases t with
    | lf =>
      have h1 := key .lf .lf none
      have h2 : (Tr.nd (lf : Tr α) none .lf).get j = (lf : Tr α).get j := by
        cases j with
        | zero => rfl
        | succ j => simp only [get]; cases Nat.beq (j % 2) 0 <;> simp
      rw [h2] at h1
      exact h1
    | nd l v r => exact key l r v
theorem get_set (t : Tr α) (k : Nat) (x : α) (j : Nat) : (t.set k x).get j = if j = k then some x else t.get j := get_setF _ _ _ _ _ (by omega)
theorem get_set_same (t : Tr α) (k : Nat) (x : α) : (t.set k x).get k = some x := by rw [get_set, if_pos rfl]
theorem get_set_other (t : Tr α) (k : Nat) (x : α) (j : Nat) (h : j ≠ k) : (t.set k x).get j = t.get j := by rw [get_set, if_neg h]
end Tr

/-! ### values -/
/-- Of an inline slice: nil; as long as its capacity; of some capacity (and not nil). -/
inductive Tag where
  | nil | full | non
  deriving DecidableEq

inductive AV where
  | int (k : IntKind) (n : Int)
  | bool (b : Bool)
  | str (l : List Int)
  | nilp
  | ptr (id off : Nat)
  | eptr (id ver i off : Nat)
  | iptr (e : AV) (off : Nat)
  | sl (els : List AV) (tag : Tag)
  | ob (id ver sz off len : Nat)
  | mp (id : Nat)
  | mpn
  | fn (f : Nat) (cap : List AV)
  | nilf
  | agg (cs : List AV)
  | tup (vs : List AV)
  | wild
  deriving Inhabited

def undef : AV := .tup []
def AV.cells : AV → List AV
  | .agg cs => cs
  | v => [v]
def AV.scalar : AV → Bool
  | .agg _ => false
  | .tup _ => false
  | _ => true
def scalars (l : List AV) : Bool := l.all AV.scalar

/-! ### memory -/
inductive Obj where
  | var (cells : List AV)
  | arr (sz : Nat) (els : List AV) (ro : Bool)
  | map (es : List (AV × AV))
  | dead
/-- ver: the version of an array (from 1 on; 0: no array); st: how often it was written. -/
structure Ent where
  obj : Obj
  ver : Nat
  st : Nat
structure Heap where
  objs : Tr Ent
  next : Nat
def Heap.get (h : Heap) (id : Nat) : Option Ent := h.objs.get id
def Heap.put (h : Heap) (id : Nat) (e : Ent) : Heap := { h with objs := h.objs.set id e }
def Heap.push (h : Heap) (e : Ent) : Heap := { objs := h.objs.set h.next e, next := h.next + 1 }

/-! ### operations on values -/
def isCmp : BinOp → Bool
  | .eql | .neq | .lss | .leq | .gtr | .geq => true
  | _ => false
def intOp (op : BinOp) (k : IntKind) (x y : Int) : Option AV :=
  match op with
  | .add => some (.int k (k.wrap (x + y)))
  | .sub => some (.int k (k.wrap (x - y)))
  | .mul => some (.int k (k.wrap (x * y)))
  | .quo => if y = 0 then none else some (.int k (k.wrap (x.tdiv y)))
  | .rem => if y = 0 then none else some (.int k (x.tmod y))
  | .and => some (.int k (k.wrap (BitVec.ofInt k.bits x &&& BitVec.ofInt k.bits y).toNat))
  | .or => some (.int k (k.wrap (BitVec.ofInt k.bits x ||| BitVec.ofInt k.bits y).toNat))
  | .xor => some (.int k (k.wrap (BitVec.ofInt k.bits x ^^^ BitVec.ofInt k.bits y).toNat))
  | .andNot => some (.int k (k.wrap (BitVec.ofInt k.bits x &&& ~~~BitVec.ofInt k.bits y).toNat))
  | .eql => some (.bool (x == y))
  | .neq => some (.bool (x != y))
  | .lss => some (.bool (decide (x < y)))
  | .leq => some (.bool (decide (x ≤ y)))
  | .gtr => some (.bool (decide (x > y)))
  | .geq => some (.bool (decide (x ≥ y)))
  | .shl | .shr => none
def shiftOp (op : BinOp) (k : IntKind) (x y : Int) : Option AV :=
  if y < 0 then none else
  match op with
  | .shl => some (.int k (k.wrap (x * 2 ^ (min y.toNat k.bits))))
  | .shr => some (.int k (x.fdiv (2 ^ (min y.toNat k.bits))))
  | _ => none
/-- Cells of a pair of a uint32 and an int, field by field. -/
def sameCells : List AV → List AV → Option Bool
  | [.int .u32 x, .int .i64 y], [.int .u32 x', .int .i64 y'] => some (x == x' && y == y')
  | _, _ => none
/-- How two values are held against one another, by their type's kind. -/
inductive EqK where
  | bool | ptr | slice | agg
  deriving DecidableEq
def eqOp (k : EqK) (x y : AV) : Option Bool :=
  match k with
  | .bool => (match x, y with | .bool a, .bool b => some (a == b) | _, _ => none)
  | .ptr => (match x, y with
    | .nilp, .nilp => some true
    | .ptr _ _, .nilp | .eptr .., .nilp | .nilp, .ptr _ _ | .nilp, .eptr .. => some false
    | _, _ => none)
  | .slice => (match x, y with
    | .sl _ t, .sl _ .nil => (match t with | .nil => some true | _ => some false)
    | .ob .., .sl _ .nil => some false
    | _, _ => none)
  | .agg => (match x, y with | .agg a, .agg b => sameCells a b | _, _ => none)
/-- Keys of a map. -/
def keyEq (agg : Bool) (x y : AV) : Option Bool :=
  match agg, x, y with
  | false, .int k a, .int j b => if k = j then some (a == b) else none
  | true, .agg a, .agg b => sameCells a b
  | _, _, _ => none
def binOp (op : BinOp) (x y : AV) : Option AV :=
  match x, y with
  | .int k a, .int j b => match op with
    | .shl | .shr => shiftOp op k a b
    | _ => if k = j then intOp op k a b else none
  | .str a, .str b => match op with
    | .eql => some (.bool (decide (a = b)))
    | .neq => some (.bool (!decide (a = b)))
    | _ => none
  | _, _ => none
def unOp (op : UnOp) (x : AV) : Option AV :=
  match op, x with
  | .not, .bool b => some (.bool (!b))
  | .neg, .int k n => some (.int k (k.wrap (0 - n)))
  | _, _ => none

/-! ### code -/
inductive AOpd where
  | t (n : Nat)
  | c (v : AV)
inductive AOp where
  | mov (x : AOpd)
  | nilc (x : AOpd)
  | pick (c a b : AOpd)
  | bin (op : BinOp) (x y : AOpd)
  | eq (k : EqK) (neg : Bool) (x y : AOpd)
  | un (op : UnOp) (x : AOpd)
  | conv (k : IntKind) (x : AOpd)
  | convs (x : AOpd)
  | alloc (cells : List AV)
  | box (x : AOpd)
  | build (zero : List AV) (parts : List (Nat × Nat × AOpd))
  | bsl (zero : AV) (len sz : Nat) (own : Bool) (parts : List (Nat × AOpd))
  | load (agg : Bool) (n : Nat) (x : AOpd)
  | store (n : Nat) (a x : AOpd)
  | fadr (off : Nat) (x : AOpd)
  | fld (agg : Bool) (off n : Nat) (x : AOpd)
  | iadr (sz : Nat) (x i : AOpd)
  | iadra (len sz : Nat) (x i : AOpd)
  | sidx (x i : AOpd)
  | slc (sz : Nat) (x : AOpd) (lo hi mx : Option AOpd)
  | slcs (x : AOpd) (lo hi mx : Option AOpd)
  | ext (x : AOpd) (i : Nat)
  | mksl (zero : AV) (sz bytes : Nat) (len cap : AOpd)
  | mkmap
  | lkup (agg : Bool) (zero : AV) (ok : Bool) (m k : AOpd)
  | mupd (agg : Bool) (m k v : AOpd)
  | mkfn (f : Nat) (cap : List AOpd)
  | call (f : Nat) (args : List AOpd)
  | callv (x : AOpd) (args : List AOpd)
  | app (sz bytes : Nat) (ro : Bool) (x y : AOpd)
  | appz (zero : AV) (sz bytes : Nat) (x n : AOpd)
  | copy (sz : Nat) (x y : AOpd)
  | len (slice : Bool) (x : AOpd)
  | cap (x : AOpd)
  | minmax (mx : Bool) (x y : AOpd)
  | clear (zero : AV) (sz : Nat) (x : AOpd)
  | no
/-- fz: how deep what is written is made an inline slice. -/
structure AOper where
  dst : Option Nat
  op : AOp
  guard : Option (Nat × Bool)
  fz : Nat
/-- Of a region that draws: res: the places of its allocs; marks: for each operation that reads memory, how many of those that write come surely ahead of it, and how many at the most. -/
inductive ACode where
  | skip
  | reg (ops : List AOper)
  | dreg (ops : List AOper) (looks : List (Nat × Nat))
  | seq (a b : ACode)
  | cond (c : AOpd) (a b : ACode)
  | block (id : Nat) (c : ACode)
  | loop (c : ACode)
  | exit (id : Nat)
  | ret
inductive ARes where
  | tmp (t : Nat)
  | cell (agg : Bool) (n : Nat) (t : Nat)
structure AFunc where
  n : Nat
  code : ACode
  res : List ARes
  fz : Nat

abbrev Tmps := Tr AV
def tget (t : Tmps) (n : Nat) : AV := (t.get n).getD undef
def ev (t : Tmps) : AOpd → AV
  | .t n => tget t n
  | .c v => v
def evs (t : Tmps) (l : List AOpd) : List AV := l.map (ev t)
def tput (t : Tmps) (d : Option Nat) (v : AV) : Tmps := match d with
  | none => t
  | some d => t.set d v

/-! ### reads and writes -/
def slots (cs : List AV) (agg : Bool) (off n : Nat) : Option AV :=
  let l := (cs.drop off).take n
  bif Nat.beq l.length n && Nat.blt 0 n then (bif agg then some (.agg l) else match l with | [v] => some v | _ => none) else none
/-- The array of an owned slice, where it is of the newest version. -/
def arrAt (h : Heap) (id ver : Nat) : Option (Nat × List AV × Bool × Nat) :=
  match h.get id with
  | some ⟨.arr sz els ro, v, st⟩ => bif Nat.beq v ver then some (sz, els, ro, st) else none
  | _ => none
def loadAt (h : Heap) (agg : Bool) (n : Nat) : AV → Option AV
  | .ptr id off => match h.get id with
    | some ⟨.var cs, _, _⟩ => slots cs agg off n
    | _ => none
  | .eptr id ver i off => (arrAt h id ver).bind fun (_, els, _, _) => (els[i]?).bind fun e => slots e.cells agg off n
  | .iptr e off => slots e.cells agg off n
  | _ => none
def splice (cs : List AV) (off : Nat) (xs : List AV) : List AV := cs.take off ++ xs ++ cs.drop (off + xs.length)
/-- What an element is after some of its cells were written. -/
def respell (e : AV) (cs : List AV) : AV := match e with
  | .agg _ => .agg cs
  | _ => match cs with | [v] => v | _ => .agg cs
def storeAt (h : Heap) (n : Nat) (x : AV) : AV → Option Heap
  | .ptr id off => match h.get id with
    | some ⟨.var cs, v, st⟩ =>
      bif Nat.beq x.cells.length n && Nat.ble (off + n) cs.length && scalars x.cells then some (h.put id ⟨.var (splice cs off x.cells), v, st + 1⟩) else none
    | _ => none
  | .eptr id ver i off => (arrAt h id ver).bind fun (sz, els, ro, st) => (els[i]?).bind fun e =>
      bif !ro && Nat.beq x.cells.length n && Nat.ble (off + n) e.cells.length && scalars x.cells then
        some (h.put id ⟨.arr sz (els.set i (respell e (splice e.cells off x.cells))) ro, ver, st + 1⟩) else none
  | _ => none
/-- The elements of a slice; its number of cells an element, if told. -/
def elsOf (h : Heap) : AV → Option (List AV)
  | .sl els _ => some els
  | .ob id ver _ off len => (arrAt h id ver).bind fun (_, els, _, _) => bif Nat.ble (off + len) els.length then some ((els.drop off).take len) else none
  | _ => none
def lenOf (slice : Bool) (x : AV) : Option Nat := match slice, x with
  | true, .sl els _ => some els.length
  | true, .ob _ _ _ _ len => some len
  | false, .str l => some l.length
  | _, _ => none
/-- Every element has so many cells, each of them plain. -/
def sized (sz : Nat) (els : List AV) : Bool := els.all fun e => Nat.beq e.cells.length sz && scalars e.cells

/-! ### making inline what is owned -/
def freeze : Nat → AV → Heap → AV × Heap
  | 0, v, h => (v, h)
  | d + 1, v, h =>
    let many : List AV → Heap → List AV × Heap := fun l h => l.foldr (fun x (acc : List AV × Heap) => let (y, h) := freeze d x acc.2; (y :: acc.1, h)) ([], h)
    match v with
    | .ob id ver _ off len => match arrAt h id ver with
      | some (_, els, false, st) =>
        bif Nat.ble (off + len) els.length then
          (let h1 := h.put id ⟨.dead, ver + 1, st + 1⟩
          let (l, h2) := many ((els.drop off).take len) h1
          (.sl l .non, h2)) else (v, h)
      | _ => (v, h)
    | .agg cs => let (l, h1) := many cs h; (.agg l, h1)
    | .tup cs => let (l, h1) := many cs h; (.tup l, h1)
    | v => (v, h)

/-! ### the run -/
abbrev CallF := Nat → List AV → Heap → Option (AV × Heap)
def natOf : AV → Option Nat
  | .int _ (.ofNat n) => some n
  | _ => none
/-- A bound of a slice expression: a number from 0 to m. -/
def bound (t : Tmps) (m : Nat) : Option AOpd → Nat → Option Nat
  | none, d => some d
  | some x, _ => (natOf (ev t x)).bind fun n => bif Nat.ble n m then some n else none
def strOf : List AV → Option (List Int)
  | [] => some []
  | .int .u8 n :: l => if 0 ≤ n ∧ n < 256 then (strOf l).map (n :: ·) else none
  | _ => none
/-- The elements have so many cells, by the first of them. -/
def headSz (sz : Nat) : List AV → Bool
  | [] => true
  | e :: _ => Nat.beq e.cells.length sz
/-- The slice expression. A capacity is told apart only where it is known. -/
def sliceOf (t : Tmps) (sz : Nat) (v : AV) (lo hi mx : Option AOpd) : Option AV :=
  match v with
  | .sl els tag => bif headSz sz els then (match mx with
    | none => (bound t els.length hi els.length).bind fun b => (bound t b lo 0).bind fun a =>
      some (.sl ((els.take b).drop a) (match tag with | .nil => .nil | .full => bif Nat.beq b els.length then .full else .non | .non => .non))
    | some m => match tag with
      | .nil => (bound t 0 (some m) 0).bind fun c => (bound t c hi 0).bind fun b => (bound t b lo 0).bind fun _ => some (.sl [] .nil)
      | _ => (bound t els.length (some m) 0).bind fun c => (bound t c hi els.length).bind fun b => (bound t b lo 0).bind fun a =>
        some (.sl ((els.take b).drop a) (bif Nat.beq b c then .full else .non))) else none
  | .ob id ver sz' off len => bif Nat.beq sz sz' then (match mx with
    | none => (bound t len hi len).bind fun b => (bound t b lo 0).bind fun a => some (.ob id ver sz (off + a) (b - a))
    | some m => (bound t len (some m) 0).bind fun c => (bound t c hi len).bind fun b => (bound t b lo 0).bind fun a => some (.ob id ver sz (off + a) (b - a))) else none
  | _ => none
def sliceStr (t : Tmps) (v : AV) (lo hi mx : Option AOpd) : Option AV :=
  match v, mx with
  | .str l, none => (bound t l.length hi l.length).bind fun b => (bound t b lo 0).bind fun a => some (.str ((l.take b).drop a))
  | _, _ => none
/-- Parts laid into cells. -/
def fill (t : Tmps) : List (Nat × Nat × AOpd) → List AV → Option (List AV)
  | [], cs => some cs
  | (off, n, x) :: r, cs =>
    let v := (ev t x).cells
    bif Nat.beq v.length n && Nat.ble (off + n) cs.length then fill t r (splice cs off v) else none
def fillEls (t : Tmps) (sz : Nat) : List (Nat × AOpd) → List AV → Option (List AV)
  | [], els => some els
  | (i, x) :: r, els =>
    let v := ev t x
    bif Nat.beq v.cells.length sz && scalars v.cells && Nat.blt i els.length then fillEls t sz r (els.set i v) else none
/-- 2^47 bytes: more is never asked of memory here. -/
def room : Nat := 140737488355328
/-- What is appended to a slice. -/
def appendTo (h : Heap) (sz bytes : Nat) (ro : Bool) (x : AV) (ys : List AV) : Option (AV × Heap) :=
  match ys with
  | [] => (match x with
    | .sl _ _ => some (x, h)
    | .ob _ _ _ _ _ => some (x, h)
    | _ => none)
  | _ => match x with
    | .sl els tag => match tag with
      | .non => none
      | _ => bif Nat.ble ((els.length + ys.length) * bytes) room && sized sz ys && sized sz els then
          some (.ob h.next 1 sz 0 (els.length + ys.length), h.push ⟨.arr sz (els ++ ys) false, 1, 0⟩) else none
    | .ob id ver _ off len => match arrAt h id ver with
      | some (sz', els, false, st) =>
        bif Nat.beq sz' sz && Nat.ble (off + len) els.length && Nat.ble ((len + ys.length) * bytes) room && sized sz ys then
          let all := (els.drop off).take len ++ ys
          (bif ro then (bif Nat.beq (off + len) els.length then some (.sl all .non, h.put id ⟨.arr sz els true, ver, st + 1⟩) else none)
          else some (.ob id (ver + 1) sz 0 (len + ys.length), h.put id ⟨.arr sz all false, ver + 1, st + 1⟩)) else none
      | _ => none
    | _ => none
def lookup (agg : Bool) (k : AV) : List (AV × AV) → Option (Option AV)
  | [] => some none
  | (k', v) :: r => match keyEq agg k k' with
    | some true => some (some v)
    | some false => lookup agg k r
    | none => none
def enterMap (agg : Bool) (k v : AV) : List (AV × AV) → Option (List (AV × AV))
  | [] => some [(k, v)]
  | (k', v') :: r => match keyEq agg k k' with
    | some true => some ((k, v) :: r)
    | some false => (enterMap agg k v r).map ((k', v') :: ·)
    | none => none
/-- Is it a key? -/
def keyOk (agg : Bool) (k : AV) : Bool := match keyEq agg k k with | some true => true | _ => false
def lookupOk (agg : Bool) (k : AV) (es : List (AV × AV)) : Option (Option AV) := bif keyOk agg k then lookup agg k es else none
def enterOk (agg : Bool) (k v : AV) (es : List (AV × AV)) : Option (List (AV × AV)) := bif keyOk agg k then enterMap agg k v es else none
/-- Elements laid over others, from a place on. -/
def overEls (els : List AV) (at_ : Nat) (xs : List AV) : List AV := els.take at_ ++ xs ++ els.drop (at_ + xs.length)
def aop (call : CallF) (t : Tmps) (h : Heap) : AOp → Option (AV × Heap)
  | .mov x => some (ev t x, h)
  | .nilc x => match ev t x with
    | .ptr id off => some (.ptr id off, h)
    | .eptr id ver i off => some (.eptr id ver i off, h)
    | .iptr e off => some (.iptr e off, h)
    | _ => none
  | .pick c a b => match ev t c with
    | .bool r => some (bif r then ev t a else ev t b, h)
    | _ => none
  | .bin op x y => (binOp op (ev t x) (ev t y)).bind fun v => some (v, h)
  | .eq k neg x y => (eqOp k (ev t x) (ev t y)).bind fun r => some (.bool (bif neg then !r else r), h)
  | .un op x => (unOp op (ev t x)).bind fun v => some (v, h)
  | .conv k x => match ev t x with
    | .int _ n => some (.int k (k.wrap n), h)
    | _ => none
  | .convs x => (elsOf h (ev t x)).bind fun els => (strOf els).bind fun l => some (.str l, h)
  | .alloc cells => some (.ptr h.next 0, h.push ⟨.var cells, 0, 0⟩)
  | .box x =>
    let cs := (ev t x).cells
    bif scalars cs then some (.ptr h.next 0, h.push ⟨.var cs, 0, 0⟩) else none
  | .build zero parts => (fill t parts zero).bind fun cs => some (.agg cs, h)
  | .bsl zero len sz own parts => (fillEls t sz parts (List.replicate len zero)).bind fun els =>
      bif own then some (.ob h.next 1 sz 0 len, h.push ⟨.arr sz els false, 1, 0⟩) else some (.sl els .full, h)
  | .load agg n x => (loadAt h agg n (ev t x)).bind fun v => some (v, h)
  | .store n a x => (storeAt h n (ev t x) (ev t a)).bind fun h' => some (undef, h')
  | .fadr off x => match ev t x with
    | .ptr id o => some (.ptr id (o + off), h)
    | .eptr id ver i o => some (.eptr id ver i (o + off), h)
    | .iptr e o => some (.iptr e (o + off), h)
    | _ => none
  | .fld agg off n x => match ev t x with
    | .agg cs => (slots cs agg off n).bind fun v => some (v, h)
    | _ => none
  | .iadr sz x i => (natOf (ev t i)).bind fun n => match ev t x with
    | .sl els _ => (els[n]?).bind fun e => bif headSz sz els then some (.iptr e 0, h) else none
    | .ob id ver sz' off len => bif Nat.blt n len && Nat.beq sz sz' then some (.eptr id ver (off + n) 0, h) else none
    | _ => none
  | .iadra len sz x i => (natOf (ev t i)).bind fun n => bif Nat.blt n len then
      (match ev t x with | .ptr id off => some (.ptr id (off + n * sz), h) | _ => none) else none
  | .sidx x i => (natOf (ev t i)).bind fun n => match ev t x with
    | .str l => (l[n]?).bind fun c => some (.int .u8 c, h)
    | _ => none
  | .slc sz x lo hi mx => (sliceOf t sz (ev t x) lo hi mx).bind fun v => some (v, h)
  | .slcs x lo hi mx => (sliceStr t (ev t x) lo hi mx).bind fun v => some (v, h)
  | .ext x i => match ev t x with
    | .tup vs => (vs[i]?).bind fun v => some (v, h)
    | _ => none
  | .mksl zero sz bytes len cap => (natOf (ev t len)).bind fun n => (natOf (ev t cap)).bind fun c =>
      bif Nat.beq n c && Nat.ble (n * bytes) room && Nat.beq zero.cells.length sz && scalars zero.cells then
        some (.ob h.next 1 sz 0 n, h.push ⟨.arr sz (List.replicate n zero) false, 1, 0⟩) else none
  | .mkmap => some (.mp h.next, h.push ⟨.map [], 0, 0⟩)
  | .lkup agg zero ok m k => match ev t m with
    | .mp id => (match h.get id with
      | some ⟨.map es, _, _⟩ => (lookupOk agg (ev t k) es).bind fun r => match r with
        | some v => some (bif ok then .tup [v, .bool true] else v, h)
        | none => some (bif ok then .tup [zero, .bool false] else zero, h)
      | _ => none)
    | _ => none
  | .mupd agg m k v => match ev t m with
    | .mp id => (match h.get id with
      | some ⟨.map es, ver, st⟩ => (enterOk agg (ev t k) (ev t v) es).bind fun es' => some (undef, h.put id ⟨.map es', ver, st + 1⟩)
      | _ => none)
    | _ => none
  | .mkfn f cap => some (.fn f (evs t cap), h)
  | .call f args => call f (evs t args) h
  | .callv x args => match ev t x with
    | .fn f cap => call f (evs t args ++ cap) h
    | _ => none
  | .app sz bytes ro x y => (elsOf h (ev t y)).bind fun ys => appendTo h sz bytes ro (ev t x) ys
  | .appz zero sz bytes x n => (natOf (ev t n)).bind fun k =>
      bif Nat.ble (k * bytes) room && Nat.beq zero.cells.length sz && scalars zero.cells && Nat.blt 0 k && Nat.blt 0 sz then (match ev t x with
        | .sl [] .nil => some (.ob h.next 1 sz 0 k, h.push ⟨.arr sz (List.replicate k zero) false, 1, 0⟩)
        | _ => none) else none
  | .copy sz x y => (elsOf h (ev t y)).bind fun ys => match ev t x with
    | .ob id ver _ off len => (match arrAt h id ver with
      | some (sz', els, false, st) =>
        let n := min ys.length len
        bif Nat.beq sz sz' && Nat.ble (off + len) els.length && sized sz ys then
          some (.int .i64 n, h.put id ⟨.arr sz (overEls els off (ys.take n)) false, ver, st + 1⟩) else none
      | _ => none)
    | _ => none
  | .len b x => (lenOf b (ev t x)).bind fun n => some (.int .i64 n, h)
  | .cap x => match ev t x with
    | .sl els .nil => some (.int .i64 els.length, h)
    | .sl els .full => some (.int .i64 els.length, h)
    | _ => none
  | .minmax mx x y => match ev t x, ev t y with
    | .int k a, .int j b => if k = j then some (.int k (if mx then (if a < b then b else a) else (if b < a then b else a)), h) else none
    | _, _ => none
  | .clear zero sz x => match ev t x with
    | .ob id ver _ off len => (match arrAt h id ver with
      | some (sz', els, false, st) =>
        bif Nat.beq sz sz' && Nat.ble (off + len) els.length && Nat.beq zero.cells.length sz && scalars zero.cells then
          some (undef, h.put id ⟨.arr sz (overEls els off (List.replicate len zero)) false, ver, st + 1⟩) else none
      | _ => none)
    | .sl [] _ => some (undef, h)
    | _ => none
  | .no => none
/-- Is an operation with a guard carried out? -/
def wanted (t : Tmps) : Option (Nat × Bool) → Bool
  | none => true
  | some (g, b) => match tget t g with
    | .bool r => r == b
    | _ => false
def astep (call : CallF) (o : AOper) (t : Tmps) (h : Heap) : Option (Tmps × Heap) :=
  bif wanted t o.guard then
    (aop call t h o.op).bind fun p => match o.fz with
      | 0 => some (tput t o.dst p.1, p.2)
      | d => let q := freeze d p.1 p.2; some (tput t o.dst q.1, q.2)
  else some (tput t o.dst undef, h)
def aops (call : CallF) : List AOper → Tmps → Heap → Option (Tmps × Heap)
  | [], t, h => some (t, h)
  | o :: r, t, h => (astep call o t h).bind fun p => aops call r p.1 p.2

/-! ### regions that draw their order -/
/-- Does it write, or make memory, or run code? -/
def AOper.acts (o : AOper) : Bool := match o.op with
  | .box _ | .store .. | .mksl .. | .mkmap | .mupd .. | .call .. | .callv .. | .app .. | .appz .. | .copy .. | .clear .. => true
  | .bsl _ _ _ own _ => own
  | _ => match o.fz with | 0 => false | _ => true
/-- Does it look into memory that may be written? -/
def AOper.look (o : AOper) : Bool := match o.op with
  | .load .. | .lkup .. | .convs .. | .alloc _ => true
  | _ => false
/-- Which object is looked at. -/
def seenId (t : Tmps) : AOp → Option Nat
  | .load _ _ x => (match ev t x with | .ptr id _ => some id | .eptr id _ _ _ => some id | _ => none)
  | .convs x => (match ev t x with | .ob id _ _ _ _ => some id | _ => none)
  | .lkup _ _ _ m _ => (match ev t m with | .mp id => some id | _ => none)
  | _ => none
def stamp (h : Heap) (id : Nat) : Option Nat := match h.get id with | some e => some e.st | none => none
def allocsOf : List AOper → Heap → Heap
  | [], h => h
  | o :: r, h => match o.op with
    | .alloc cells => allocsOf r (h.push ⟨.var cells, 0, 0⟩)
    | _ => allocsOf r h
/-- Which object is looked at, and how often it was written so far. na: the id of the next alloc. -/
def seenAt (t : Tmps) (h : Heap) (na : Nat) (op : AOp) : Option (Option (Nat × Nat)) := match op with
  | .alloc _ => some (some (na, 0))
  | op => match seenId t op with
    | some id => (match stamp h id with | some st => some (some (id, st)) | none => none)
    | none => some none
/-- One operation of such a region. -/
def dstep (call : CallF) (o : AOper) (t : Tmps) (h : Heap) (na : Nat) : Option (Tmps × Heap × Nat) :=
  match o.op with
  | .alloc _ => some (tput t o.dst (bif wanted t o.guard then .ptr na 0 else undef), h, na + 1)
  | _ => (astep call o t h).bind fun p => some (p.1, p.2, na)
/-- Nothing that an operation looked at was written in between: of the memories from number lo to number hi (all: the newest first, so many are there). -/
def steady (hs : List Heap) (id st lo hi : Nat) : Bool := ((hs.drop lo).take (hi - lo + 1)).all fun h => match stamp h id with | some s => Nat.beq s st | none => false
/-- looks: of each operation that looks: lo, hi. hs: the memories behind each writing operation, the newest first. seen: (id, stamp, lo, hi), to be asked at the end. -/
def dops (call : CallF) : List AOper → List (Nat × Nat) → Tmps → Heap → Nat → List Heap → List (Nat × Nat × Nat × Nat) → Option (Tmps × Heap)
  | [], _, t, h, _, hs, seen => let l := hs.reverse; bif seen.all (fun q => steady l q.1 q.2.1 q.2.2.1 q.2.2.2) then some (t, h) else none
  | o :: r, looks, t, h, na, hs, seen =>
    (dstep call o t h na).bind fun p =>
      bif o.look then
        (match looks with
        | [] => none
        | q :: lk => bif wanted t o.guard then
            (seenAt t h na o.op).bind fun s => match s with
              | some x => dops call r lk p.1 p.2.1 p.2.2 (bif o.acts then p.2.1 :: hs else hs) ((x.1, x.2, q.1, q.2) :: seen)
              | none => dops call r lk p.1 p.2.1 p.2.2 (bif o.acts then p.2.1 :: hs else hs) seen
          else dops call r lk p.1 p.2.1 p.2.2 (bif o.acts then p.2.1 :: hs else hs) seen)
      else dops call r looks p.1 p.2.1 p.2.2 (bif o.acts then p.2.1 :: hs else hs) seen

inductive AExit where
  | normal
  | exit (id : Nat)
  | ret
def aloop (step : Tmps → Heap → Option (AExit × Tmps × Heap)) : Nat → Tmps → Heap → Option (AExit × Tmps × Heap)
  | 0, _, _ => none
  | n + 1, t, h => (step t h).bind fun p => match p.1 with
    | .normal => aloop step n p.2.1 p.2.2
    | _ => some p
def acode (call : CallF) (n : Nat) : ACode → Tmps → Heap → Option (AExit × Tmps × Heap)
  | .skip, t, h => some (.normal, t, h)
  | .reg ops, t, h => (aops call ops t h).bind fun p => some (.normal, p.1, p.2)
  | .dreg ops looks, t, h =>
    let h0 := allocsOf ops h
    (dops call ops looks t h0 h.next [h0] []).bind fun p => some (.normal, p.1, p.2)
  | .seq a b, t, h => (acode call n a t h).bind fun p => match p.1 with
    | .normal => acode call n b p.2.1 p.2.2
    | _ => some p
  | .cond c a b, t, h => match ev t c with
    | .bool r => bif r then acode call n a t h else acode call n b t h
    | _ => none
  | .block id c, t, h => (acode call n c t h).bind fun p => match p.1 with
    | .exit i => bif Nat.beq i id then some (.normal, p.2) else some p
    | _ => some p
  | .loop c, t, h => aloop (acode call n c) n t h
  | .exit id, t, h => some (.exit id, t, h)
  | .ret, t, h => some (.ret, t, h)
def resOf (t : Tmps) (h : Heap) : ARes → Option AV
  | .tmp n => some (tget t n)
  | .cell agg n a => loadAt h agg n (tget t a)
def resAll (t : Tmps) (h : Heap) : List ARes → Option (List AV)
  | [] => some []
  | r :: l => (resOf t h r).bind fun v => (resAll t h l).bind fun vs => some (v :: vs)
def argsIn : List AV → Nat → Tmps → Tmps
  | [], _, t => t
  | v :: l, i, t => argsIn l (i + 1) (t.set i v)
def tupOf : List AV → AV
  | [v] => v
  | l => .tup l
/-- A call. fetch: the functions; own: what is not run but reckoned (proved by itself). -/
def acall (fetch : Nat → Option AFunc) (own : Nat → Option (List AV → Heap → Option (AV × Heap))) : Nat → CallF
  | 0 => fun _ _ _ => none
  | n + 1 => fun f args h => match own f with
    | some g => g args h
    | none => (fetch f).bind fun fn => bif Nat.ble args.length fn.n then (acode (acall fetch own n) n fn.code (argsIn args 0 .lf) h).bind fun p => match p.1 with
      | .exit _ => none
      | _ => (resAll p.2.1 p.2.2 fn.res).bind fun vs => some (freeze fn.fz (tupOf vs) p.2.2)
      else none

end Go.AM
