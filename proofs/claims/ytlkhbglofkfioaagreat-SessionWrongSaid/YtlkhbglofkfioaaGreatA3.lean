/- The loaded code as the abstract machine's code: the types' table, the translation. -/
import Derived.Test.YtlkhbglofkfioaaGreatA2
set_option linter.unusedVariables false
namespace Go.AM
open Go

/-! ### types -/
inductive TK where
  | int (k : IntKind) | bool | string
  | slice (e : TypeId)
  | struct (fs : List (Nat × TypeId))
  | arr (n : Nat) (e : TypeId)
  | ptr
  | map (k e : TypeId)
  | other
structure TI where
  size : Nat
  bytes : Nat
  agg : Bool
  zero : AV
  kind : TK
  eqOk : Bool := false

/-- A value that speaks of no memory. -/
def sameZ : AV → Value → Bool
  | .int k n, .int j m => decide (k = j) && decide (n = m)
  | .bool a, .bool b => a == b
  | .str [], .string s => s.data.toList.isEmpty
  | .nilp, .pointer none => true
  | .sl [] .nil, .slice none 0 0 => true
  | .nilf, .nilFunc => true
  | .mpn, .map none => true
  | .agg cs, .agg vs => cs.length == vs.size && allZ cs vs.toList
  | _, _ => false
where
  allZ : List AV → List Value → Bool
    | [], [] => true
    | c :: cs, v :: vs => one c v && allZ cs vs
    | _, _ => false
  one : AV → Value → Bool
    | .int k n, .int j m => decide (k = j) && decide (n = m)
    | .bool a, .bool b => a == b
    | .str [], .string s => s.data.toList.isEmpty
    | .nilp, .pointer none => true
    | .sl [] .nil, .slice none 0 0 => true
    | .nilf, .nilFunc => true
    | .mpn, .map none => true
    | _, _ => false

def descB (k : TK) (agg : Bool) : TypeDesc → Bool
  | .int j => !agg && (match k with | .int i => decide (i = j) | _ => false)
  | .bool => !agg && (match k with | .bool => true | _ => false)
  | .string => !agg && (match k with | .string => true | _ => false)
  | .slice e => !agg && (match k with | .slice e' => e == e' | _ => false)
  | .struct fs => agg && (match k with | .struct gs => (fs.toList.map fun f => (f.offset, f.type)) == gs | _ => false)
  | .array n e => agg && (match k with | .arr m e' => n == m && e == e' | _ => false)
  | .pointer _ => !agg && (match k with | .ptr => true | _ => false)
  | .map a b => !agg && (match k with | .map c d => a == c && b == d | _ => false)
  | _ => false
def checkT (P : Program) (t : TypeId) (ti : TI) : Bool :=
  match P.info? t, P.underlying t with
  | some i, some d => i.size == ti.size && i.bytes == ti.bytes && (match i.zero with | some z => sameZ ti.zero z | none => false) && descB ti.kind ti.agg d && ti.zero.cells.length == ti.size && scalars ti.zero.cells && decide (0 < ti.bytes)
  | _, _ => false

/-- What is known of a type. -/
structure TypeFact (P : Program) (t : TypeId) (ti : TI) : Prop where
  info : ∃ i zv, P.info? t = some i ∧ i.size = ti.size ∧ i.bytes = ti.bytes ∧ i.zero = some zv ∧ sameZ ti.zero zv = true
  desc : ∃ d, P.underlying t = some d ∧ descB ti.kind ti.agg d = true
  zlen : ti.zero.cells.length = ti.size
  zsc : scalars ti.zero.cells = true
  pos : 0 < ti.bytes
theorem typeFact_of {P : Program} {t : TypeId} {ti : TI} (h : checkT P t ti = true) : TypeFact P t ti := by
  unfold checkT at h
  split at h
  · rename_i i d hi hd
    simp only [Bool.and_eq_true, beq_iff_eq, decide_eq_true_eq] at h
    obtain ⟨⟨⟨⟨⟨⟨h1, h2⟩, h3⟩, h4⟩, h5⟩, h6⟩, h7⟩ := h
    split at h3
    · rename_i z hz
      exact ⟨⟨i, z, hi, h1, h2, hz, h3⟩, ⟨d, hd, h4⟩, h5, h6, h7⟩
    · cases h3
  · cases h
theorem VR.ofOne {C : Ctx} {a : AV} {v : Value} (h : sameZ.one a v = true) : VR C a v := by
  unfold sameZ.one at h
  split at h
  · simp only [Bool.and_eq_true, decide_eq_true_eq] at h
    obtain ⟨rfl, rfl⟩ := h
    exact .int _ _
  · have := eq_of_beq h
    subst this
    exact .bool _
  · rename_i s
    refine .str [] s ?_
    have : s.data.toList = [] := List.isEmpty_iff.1 h
    rw [this]; rfl
  · exact .nilp
  · refine .sl [] .nil none 0 0 0 0 (Nat.le_refl _) ⟨rfl, rfl, rfl⟩ (fun h => absurd rfl h) rfl ?_ ?_ <;> intro i e j x <;> intros <;> simp_all
  · exact .nilf
  · exact .mpn
  · cases h
theorem VR.ofAll {C : Ctx} : ∀ {cs : List AV} {vs : List Value}, sameZ.allZ cs vs = true → cs.length = vs.length ∧ ∀ (i : Nat) (x : AV) (v : Value), cs[i]? = some x → vs[i]? = some v → VR C x v
  | [], [], _ => ⟨rfl, fun i x v h => by simp at h⟩
  | c :: cs, v :: vs, h => by
    simp only [sameZ.allZ, Bool.and_eq_true] at h
    obtain ⟨h1, h2⟩ := h
    obtain ⟨h3, h4⟩ := VR.ofAll (C := C) h2
    refine ⟨by simp [h3], fun i x u hx hu => ?_⟩
    cases i with
    | zero =>
      simp only [List.getElem?_cons_zero, Option.some.injEq] at hx hu
      subst hx; subst hu
      exact VR.ofOne h1
    | succ i => exact h4 i x u (by simpa using hx) (by simpa using hu)
  | [], _ :: _, h => by simp [sameZ.allZ] at h
  | _ :: _, [], h => by simp [sameZ.allZ] at h
theorem VR.ofZ {C : Ctx} {a : AV} {v : Value} (h : sameZ a v = true) : VR C a v := by
  unfold sameZ at h
  split at h
  · exact VR.ofOne h
  · exact VR.ofOne h
  · exact VR.ofOne h
  · exact .nilp
  · exact VR.ofOne (v := .slice none 0 0) rfl
  · exact .nilf
  · exact .mpn
  · rename_i cs vs
    simp only [Bool.and_eq_true, beq_iff_eq] at h
    obtain ⟨h1, h2⟩ := h
    exact .agg cs vs h1.symm fun i x v hx hv => (VR.ofAll h2).2 i x v hx (by simpa using hv)
  · cases h

/-! ### the translation -/
/-- What is said beside the code: how deep results are made inline, which literals are one's own, which appends end their row. -/
structure Ann where
  fz : List (Nat × Nat) := []
  own : List Nat := []
  ro : List Nat := []
  res : Nat := 0
def Ann.fzOf (an : Ann) (d : Option Nat) : Nat := match d with
  | none => 0
  | some d => match an.fz.find? (fun p => p.1 == d) with | some p => p.2 | none => 0
def Ann.isIn (l : List Nat) : Option Nat → Bool
  | none => false
  | some d => l.contains d
def ofV : Value → Option AV
  | .int k n => some (.int k n)
  | .bool b => some (.bool b)
  | .string s => some (.str (s.data.toList.map fun b => (b.toNat : Int)))
  | .pointer none => some .nilp
  | .slice none 0 0 => some (.sl [] .nil)
  | .nilFunc => some .nilf
  | _ => none
def trOpd : Operand → Option AOpd
  | .tmp t => some (.t t)
  | .const v => (ofV v).map .c
  | .func f => some (.c (.fn f []))
  | .global _ => none
def trOpds : List Operand → Option (List AOpd)
  | [] => some []
  | x :: l => (trOpd x).bind fun y => (trOpds l).bind fun ys => some (y :: ys)
def trOpt : Option Operand → Option (Option AOpd)
  | none => some none
  | some x => (trOpd x).map some
abbrev Types := TypeId → Option TI
def trParts (place : Nat → Option (Nat × Nat)) : List (Nat × Operand) → Option (List (Nat × Nat × AOpd))
  | [] => some []
  | (i, x) :: r => (place i).bind fun p => (trOpd x).bind fun y => (trParts place r).bind fun ys => some ((p.1, p.2, y) :: ys)
def trEls (len : Nat) : List (Nat × Operand) → Option (List (Nat × AOpd))
  | [] => some []
  | (i, x) :: r => (trOpd x).bind fun y => (trEls len r).bind fun ys => some ((i, y) :: ys)
/-- Where the fields of a struct lie, and how many cells they have. -/
def fieldAt (T : Types) (fs : List (Nat × TypeId)) (i : Nat) : Option (Nat × Nat) := (fs[i]?).bind fun p => (T p.2).bind fun ti => some (p.1, ti.size)
def trBuiltin (T : Types) (an : Ann) (dst : Option Nat) (b : Builtin) (args : List Operand) (ts : List TypeId) : Option AOp :=
  match b, args, ts with
  | .append, [x, y], [t, u] => (T t).bind fun ti => match ti.kind with
    | .slice e => (T e).bind fun te => (trOpd x).bind fun x' => (trOpd y).bind fun y' => (T u).bind fun tu => match tu.kind with
      | .slice e' => if e = e' then some (.app te.size te.bytes (Ann.isIn an.ro dst) x' y') else none
      | .int .i64 => some (.appz te.zero te.size te.bytes x' y')
      | _ => none
    | _ => none
  | .copy, [x, y], [t, u] => (T t).bind fun ti => match ti.kind with
    | .slice e => (T e).bind fun te => (trOpd x).bind fun x' => (trOpd y).bind fun y' => some (.copy te.size x' y')
    | _ => none
  | .len, [x], [t] => (T t).bind fun ti => match ti.kind with
    | .slice _ => (trOpd x).bind fun x' => some (.len true x')
    | .string => (trOpd x).bind fun x' => some (.len false x')
    | _ => none
  | .cap, [x], [t] => (T t).bind fun ti => match ti.kind with
    | .slice _ => (trOpd x).bind fun x' => some (.cap x')
    | _ => none
  | .min, [x, y], _ => (trOpd x).bind fun x' => (trOpd y).bind fun y' => some (.minmax false x' y')
  | .max, [x, y], _ => (trOpd x).bind fun x' => (trOpd y).bind fun y' => some (.minmax true x' y')
  | .clear, [x], [t] => (T t).bind fun ti => match ti.kind with
    | .slice e => (T e).bind fun te => (trOpd x).bind fun x' => some (.clear te.zero te.size x')
    | _ => none
  | _, _, _ => none
def eqKind (ti : TI) : Option EqK := match ti.kind with
  | .bool => some .bool
  | .ptr => some .ptr
  | .slice _ => some .slice
  | .struct _ => if ti.eqOk then some .agg else none
  | _ => none
def trOp (T : Types) (an : Ann) (dst : Option Nat) : Op → Option AOp
  | .move x | .assign x => (trOpd x).map .mov
  | .nilCheck x => (trOpd x).map .nilc
  | .pick c a b => (trOpd c).bind fun c' => (trOpd a).bind fun a' => (trOpd b).bind fun b' => some (.pick c' a' b')
  | .binOp op t x y _ => (trOpd x).bind fun x' => (trOpd y).bind fun y' => (T t).bind fun ti => match ti.kind with
    | .int _ | .string => some (.bin op x' y')
    | _ => (eqKind ti).bind fun k => match op with
      | .eql => some (.eq k false x' y')
      | .neq => some (.eq k true x' y')
      | _ => none
  | .unOp op _ x => (trOpd x).bind fun x' => some (.un op x')
  | .convert s d x => (T s).bind fun ts => (T d).bind fun td => (trOpd x).bind fun x' => match ts.kind, td.kind with
    | .int _, .int k => some (.conv k x')
    | .slice e, .string => (T e).bind fun te => match te.kind with
      | .int .u8 => some (.convs x')
      | _ => none
    | _, _ => none
  | .alloc e => (T e).bind fun te => some (.alloc te.zero.cells)
  | .box _ x => (trOpd x).map .box
  | .build t parts => (T t).bind fun ti => match ti.kind with
    | .struct fs => if fs.all (fun p => (T p.2).isSome) then (trParts (fieldAt T fs) parts.toList).bind fun ps => some (.build ti.zero.cells ps) else none
    | .arr n e => (T e).bind fun te => (trParts (fun i => some (i * te.size, te.size)) parts.toList).bind fun ps => some (.build ti.zero.cells ps)
    | _ => none
  | .buildSlice t len parts => (T t).bind fun ti => match ti.kind with
    | .slice e => (T e).bind fun te => (trEls len parts.toList).bind fun ps => if len * te.size ≤ 16777216 then some (.bsl te.zero len te.size (Ann.isIn an.own dst) ps) else none
    | _ => none
  | .load t x => (T t).bind fun ti => (trOpd x).bind fun x' => some (.load ti.agg ti.size x')
  | .store t a x => (T t).bind fun ti => (trOpd a).bind fun a' => (trOpd x).bind fun x' => some (.store ti.size a' x')
  | .fieldAddr s x f => (T s).bind fun ts => match ts.kind with
    | .struct fs => (fieldAt T fs f).bind fun p => if p.2 = 0 then none else (trOpd x).bind fun x' => some (.fadr p.1 x')
    | _ => none
  | .field s x f => (T s).bind fun ts => match ts.kind with
    | .struct fs => (fs[f]?).bind fun p => (T p.2).bind fun tf => (trOpd x).bind fun x' => some (.fld tf.agg p.1 tf.size x')
    | _ => none
  | .indexAddr t x i => (T t).bind fun ti => match ti.kind with
    | .slice e => (T e).bind fun te => (trOpd x).bind fun x' => (trOpd i).bind fun i' => some (.iadr te.size x' i')
    | .arr n e => (T e).bind fun te => (trOpd x).bind fun x' => (trOpd i).bind fun i' => some (.iadra n te.size x' i')
    | _ => none
  | .index t x i => (T t).bind fun ti => match ti.kind with
    | .string => (trOpd x).bind fun x' => (trOpd i).bind fun i' => some (.sidx x' i')
    | _ => none
  | .slice t x lo hi mx => (T t).bind fun ti => (trOpd x).bind fun x' => (trOpt lo).bind fun lo' => (trOpt hi).bind fun hi' => (trOpt mx).bind fun mx' => match ti.kind with
    | .slice e => (T e).bind fun te => if mx.isSome && hi.isNone then none else some (.slc te.size x' lo' hi' mx')
    | .string => some (.slcs x' lo' hi' mx')
    | _ => none
  | .extract x i => (trOpd x).bind fun x' => some (.ext x' i)
  | .makeSlice t l c => (T t).bind fun ti => match ti.kind with
    | .slice e => (T e).bind fun te => (trOpd l).bind fun l' => (trOpd c).bind fun c' => some (.mksl te.zero te.size te.bytes l' c')
    | _ => none
  | .makeMap _ none => some .mkmap
  | .lookup t m k ok => (T t).bind fun ti => match ti.kind with
    | .map kt e => (T kt).bind fun tk => (T e).bind fun te => (trOpd m).bind fun m' => (trOpd k).bind fun k' => match tk.kind with
      | .int _ => some (.lkup false te.zero ok m' k')
      | .struct _ => if tk.eqOk then some (.lkup true te.zero ok m' k') else none
      | _ => none
    | _ => none
  | .mapUpdate t m k v => (T t).bind fun ti => match ti.kind with
    | .map kt _ => (T kt).bind fun tk => (trOpd m).bind fun m' => (trOpd k).bind fun k' => (trOpd v).bind fun v' => match tk.kind with
      | .int _ => some (.mupd false m' k' v')
      | .struct _ => if tk.eqOk then some (.mupd true m' k' v') else none
      | _ => none
    | _ => none
  | .makeFunc (.func f) first cap => if first.size = 0 then (trOpds cap.toList).bind fun cs => some (.mkfn f cs) else none
  | .call c => match c.callee with
    | .value (.func f) => (trOpds c.args.toList).bind fun xs => some (.call f xs)
    | .value x => (trOpd x).bind fun x' => (trOpds c.args.toList).bind fun xs => some (.callv x' xs)
    | .builtin b => trBuiltin T an dst b c.args.toList c.argTypes.toList
    | .invoke _ _ => none
  | .makeInterface .. | .panic _ => some .no
  | _ => none
def dstOk (n : Nat) : Option Nat → Bool
  | none => true
  | some d => Nat.blt d n
def trOper (T : Types) (an : Ann) (n : Nat) (ops : Array Oper) (o : Oper) : Option AOper :=
  (trOp T an o.dst o.op).bind fun op =>
    if dstOk n o.dst then
      (match o.guard with
      | none => some ⟨o.dst, op, none, 0⟩
      | some (g, b) => match (ops[g]?).bind (·.dst) with
        | some t => if t < n then some ⟨o.dst, op, some (t, b), 0⟩ else none
        | none => none)
    else none
def trOpers (T : Types) (an : Ann) (n : Nat) (ops : Array Oper) : List Oper → Option (List AOper)
  | [] => some []
  | o :: r => (trOper T an n ops o).bind fun o' => (trOpers T an n ops r).bind fun r' => some (o' :: r')

/-! ### regions that draw -/
/-- Of each operation: which ones come surely ahead of it. -/
def presOf : List Oper → List (List Nat) → List (List Nat)
  | [], acc => acc
  | o :: r, acc =>
    let d := (o.after.toList.filter fun e => Region.binds .any e).map (·.on)
    presOf r (acc ++ [d ++ d.flatMap fun j => acc.getD j []])
/-- What comes ahead stands ahead. -/
def upward (ops : List Oper) : Bool := ops.zipIdx.all fun (o, i) => o.after.toList.all fun e => !Region.binds .any e || decide (e.on < i)
def AOpd.reads : AOpd → List Nat
  | .t n => [n]
  | .c _ => []
def optReads : Option AOpd → List Nat
  | none => []
  | some x => x.reads
def AOp.reads : AOp → List Nat
  | .mov x | .nilc x | .un _ x | .conv _ x | .convs x | .box x | .load _ _ x | .fadr _ x | .fld _ _ _ x | .ext x _ | .len _ x | .cap x | .clear _ _ x => x.reads
  | .pick c a b => c.reads ++ a.reads ++ b.reads
  | .bin _ x y | .eq _ _ x y | .store _ x y | .iadr _ x y | .iadra _ _ x y | .sidx x y | .mksl _ _ _ x y | .lkup _ _ _ x y | .app _ _ _ x y | .appz _ _ _ x y | .copy _ x y | .minmax _ x y => x.reads ++ y.reads
  | .alloc _ | .mkmap | .no => []
  | .build _ ps => ps.flatMap fun p => p.2.2.reads
  | .bsl _ _ _ _ ps => ps.flatMap fun p => p.2.reads
  | .slc _ x a b c => x.reads ++ optReads a ++ optReads b ++ optReads c
  | .slcs x a b c => x.reads ++ optReads a ++ optReads b ++ optReads c
  | .mupd _ a b c => a.reads ++ b.reads ++ c.reads
  | .mkfn _ xs | .call _ xs => xs.flatMap AOpd.reads
  | .callv x xs => x.reads ++ xs.flatMap AOpd.reads
def AOper.reads (o : AOper) : List Nat := o.op.reads ++ (match o.guard with | none => [] | some (g, _) => [g])
/-- Every place that is read is written surely ahead, or surely behind, or not at all here; no place is written twice; what acts is in line. -/
def dregOk (ops : List AOper) (pres : List (List Nat)) : Bool :=
  let l := ops.zipIdx
  l.all fun (o, i) => l.all fun (q, j) =>
    (match q.dst with
     | none => true
     | some d => !(o.reads.contains d) || (if j < i then (pres.getD i []).contains j else i != j && (pres.getD j []).contains i)) &&
    (if j < i then (match o.dst, q.dst with | some d, some e => d != e | _, _ => true) && (!(o.acts && q.acts) || (pres.getD i []).contains j) else true)
def looksOf (ops : List AOper) (pres : List (List Nat)) : List (Nat × Nat) :=
  let l := ops.zipIdx
  let m := (ops.filter AOper.acts).length
  l.filterMap fun (o, i) => if o.look then
    some ((l.filter fun (q, j) => q.acts && (pres.getD i []).contains j).length, m - (l.filter fun (q, j) => q.acts && (pres.getD j []).contains i).length) else none
def trCode (T : Types) (an : Ann) (n : Nat) : Code → Option ACode
  | .skip => some .skip
  | .label _ => some .skip
  | .region _ ops draw => (trOpers T an n ops ops.toList).bind fun l =>
    if draw then
      (let pres := presOf ops.toList []
      if dregOk l pres && upward ops.toList then some (.dreg l (looksOf l pres)) else none)
    else some (.reg l)
  | .seq a b => (trCode T an n a).bind fun a' => (trCode T an n b).bind fun b' => some (.seq a' b')
  | .cond c a b => (trOpd c).bind fun c' => (trCode T an n a).bind fun a' => (trCode T an n b).bind fun b' => some (.cond c' a' b')
  | .block id c => (trCode T an n c).bind fun c' => some (.block id c')
  | .loop c => (trCode T an n c).bind fun c' => some (.loop c')
  | .scope c => trCode T an n c
  | .exit id => some (.exit id)
  | .ret => some .ret
  | _ => none
def trRes (T : Types) : ResultVar → Option ARes
  | .tmp t => some (.tmp t)
  | .cell a t => (T t).bind fun ti => some (.cell ti.agg ti.size a)
def trResL (T : Types) : List ResultVar → Option (List ARes)
  | [] => some []
  | r :: l => (trRes T r).bind fun x => (trResL T l).bind fun xs => some (x :: xs)
def trFunc (T : Types) (an : Ann) (fn : Func) : Option AFunc :=
  fn.body.bind fun c => (trCode T an fn.ntmps c).bind fun code => (trResL T fn.results.toList).bind fun res =>
    some ⟨fn.ntmps, code, res, an.res⟩

end Go.AM
