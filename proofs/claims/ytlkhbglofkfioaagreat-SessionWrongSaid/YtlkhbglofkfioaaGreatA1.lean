/- What the abstract machine's values and memory say of the model's: the relation, and that it stays. -/
import Derived.Test.YtlkhbglofkfioaaGreatA0
import Derived.Calls
import Derived.Orders
import Derived.Below
set_option linter.unusedVariables false
namespace Go.AM
open Go

structure Loc where
  blk : Nat
  base : Nat
  sz : Nat
/-- loc: where an object lies; own: the blocks that may be written; ver: the objects' versions; held: objects that are told of already and lie nowhere yet. -/
structure Ctx where
  loc : Nat → Option Loc
  own : Nat → Prop
  ver : Nat → Nat
  w : World
  held : Nat → Prop

def TagOk : Tag → Option Addr → Nat → Nat → Prop
  | .nil, a, n, c => a = none ∧ n = 0 ∧ c = 0
  | .full, a, n, c => a ≠ none ∧ c = n
  | .non, a, _, _ => a ≠ none

inductive VR (C : Ctx) : AV → Value → Prop where
  | int (k : IntKind) (n : Int) : VR C (.int k n) (.int k n)
  | bool (b : Bool) : VR C (.bool b) (.bool b)
  | wild (k : IntKind) (n : Int) : VR C .wild (.int k n)
  | str (l : List Int) (s : ByteArray) (h : s.data.toList.map (fun b => (b.toNat : Int)) = l) : VR C (.str l) (.string s)
  | nilp : VR C .nilp (.pointer none)
  | ptr (id off : Nat) (l : Loc) (h : C.loc id = some l) (hb : l.base = 0) (h0 : C.ver id = 0) : VR C (.ptr id off) (.pointer (some ⟨l.blk, off, none⟩))
  | eptr (id ver i off : Nat) (a : Addr) (hv : 1 ≤ ver) (hle : ver ≤ C.ver id) (h : C.ver id = ver → ∃ l, C.loc id = some l ∧ a = ⟨l.blk, l.base + i * l.sz + off, none⟩) : VR C (.eptr id ver i off) (.pointer (some a))
  | iptr (e : AV) (off b o : Nat) (hb : ¬ C.own b) (hs : b < C.w.heap.size) (hsc : scalars e.cells = true)
      (hc : ∀ j x, e.cells[j]? = some x → (C.w.cell? ⟨b, o + j, none⟩).isSome = true)
      (hv : ∀ j x v, e.cells[j]? = some x → C.w.cell? ⟨b, o + j, none⟩ = some v → VR C x v) : VR C (.iptr e off) (.pointer (some ⟨b, o + off, none⟩))
  | sl (els : List AV) (tag : Tag) (a : Option Addr) (c b o sz : Nat) (hn : els.length ≤ c) (ht : TagOk tag a els.length c)
      (ha : els ≠ [] → a = some ⟨b, o, none⟩ ∧ ¬ C.own b ∧ b < C.w.heap.size) (hs : sized sz els = true)
      (hc : ∀ i e j x, els[i]? = some e → e.cells[j]? = some x → (C.w.cell? ⟨b, o + i * sz + j, none⟩).isSome = true)
      (hv : ∀ i e j x v, els[i]? = some e → e.cells[j]? = some x → C.w.cell? ⟨b, o + i * sz + j, none⟩ = some v → VR C x v) : VR C (.sl els tag) (.slice a els.length c)
  | ob (id ver sz off len : Nat) (a : Addr) (cap : Nat) (hl : len ≤ cap) (h1 : 1 ≤ ver) (hle : ver ≤ C.ver id)
      (h : C.ver id = ver → ∃ l row e, C.loc id = some l ∧ l.sz = sz ∧ (0 < cap → a = ⟨l.blk, l.base + off * sz, none⟩) ∧ C.w.heap[l.blk]? = some (.cells row e (0, 0)) ∧ l.base + (off + cap) * sz ≤ row.size) :
      VR C (.ob id ver sz off len) (.slice (some a) len cap)
  | mp (id : Nat) (l : Loc) (h : C.loc id = some l) (h0 : C.ver id = 0) : VR C (.mp id) (.map (some l.blk))
  | mpn : VR C .mpn (.map none)
  | fn (f : Nat) (cap : List AV) (vs : Array Value) (h : vs.size = cap.length) (hv : ∀ (i : Nat) (x : AV) (v : Value), cap[i]? = some x → vs[i]? = some v → VR C x v) : VR C (.fn f cap) (.func (.func f) #[] vs)
  | nilf : VR C .nilf .nilFunc
  | agg (cs : List AV) (vs : Array Value) (h : vs.size = cs.length) (hv : ∀ (i : Nat) (x : AV) (v : Value), cs[i]? = some x → vs[i]? = some v → VR C x v) : VR C (.agg cs) (.agg vs)
  | tup (cs : List AV) (vs : Array Value) (h : vs.size = cs.length) (hv : ∀ (i : Nat) (x : AV) (v : Value), cs[i]? = some x → vs[i]? = some v → VR C x v) : VR C (.tup cs) (.tuple vs)

structure Trans (C C' : Ctx) : Prop where
  os : C'.w.os = C.w.os
  tape : C'.w.tape = C.w.tape
  output : C'.w.output = C.w.output
  size : C.w.heap.size ≤ C'.w.heap.size
  keep : ∀ b, b < C.w.heap.size → ¬ C.own b → C'.w.heap[b]? = C.w.heap[b]? ∧ ¬ C'.own b
  ver : ∀ id, C.ver id ≤ C'.ver id
  loc : ∀ id l, C.loc id = some l → C'.ver id = C.ver id → C'.loc id = some l
  zero : ∀ id l, C.loc id = some l → C.ver id = 0 → C'.ver id = 0
  row : ∀ id l, C.loc id = some l → C'.ver id = C.ver id → ∀ row e, C.w.heap[l.blk]? = some (.cells row e (0, 0)) → ∃ row', C'.w.heap[l.blk]? = some (.cells row' e (0, 0)) ∧ row'.size = row.size
  held : C'.held = C.held

theorem Trans.refl (C : Ctx) : Trans C C := ⟨rfl, rfl, rfl, Nat.le_refl _, fun _ _ h => ⟨rfl, h⟩, fun _ => Nat.le_refl _, fun _ _ h _ => h, fun _ _ _ h => h, fun _ _ _ _ row _ h => ⟨row, h, rfl⟩, rfl⟩
theorem Trans.trans {A B C : Ctx} (h : Trans A B) (k : Trans B C) : Trans A C where
  os := k.os.trans h.os
  tape := k.tape.trans h.tape
  output := k.output.trans h.output
  size := Nat.le_trans h.size k.size
  keep b hb ho := by
    obtain ⟨h1, h2⟩ := h.keep b hb ho
    obtain ⟨h3, h4⟩ := k.keep b (Nat.lt_of_lt_of_le hb h.size) h2
    exact ⟨h3.trans h1, h4⟩
  ver id := Nat.le_trans (h.ver id) (k.ver id)
  loc id l hl hv := by
    have h1 := h.ver id
    have h2 := k.ver id
    exact k.loc id l (h.loc id l hl (by omega)) (by omega)
  zero id l hl h0 := by
    have h1 := h.zero id l hl h0
    exact k.zero id l (h.loc id l hl (by omega)) h1
  row id l hl hv row e hr := by
    have h1 := h.ver id
    have h2 := k.ver id
    obtain ⟨row1, hr1, hs1⟩ := h.row id l hl (by omega) row e hr
    obtain ⟨row2, hr2, hs2⟩ := k.row id l (h.loc id l hl (by omega)) (by omega) row1 e hr1
    exact ⟨row2, hr2, hs2.trans hs1⟩
  held := k.held.trans h.held

theorem cell?_at {w : World} {b o : Nat} : w.cell? ⟨b, o, none⟩ = match w.heap[b]? with | some (.cells c _ _) => c[o]? | _ => none := by
  unfold World.cell?; cases w.heap[b]? with
  | none => rfl
  | some o => cases o <;> rfl
theorem cell?_keep {C C' : Ctx} (h : Trans C C') {b o : Nat} (hb : b < C.w.heap.size) (ho : ¬ C.own b) : C'.w.cell? ⟨b, o, none⟩ = C.w.cell? ⟨b, o, none⟩ := by
  rw [cell?_at, cell?_at, (h.keep b hb ho).1]

/-- What is told of a value stays. -/
theorem VR.trans {C C' : Ctx} (h : Trans C C') {a : AV} {v : Value} (hv : VR C a v) : VR C' a v := by
  induction hv with
  | int k n => exact .int k n
  | bool b => exact .bool b
  | wild k n => exact .wild k n
  | str l s h => exact .str l s h
  | nilp => exact .nilp
  | ptr id off l hl hb h0 =>
    have h1 := h.zero id l hl h0
    exact .ptr id off l (h.loc id l hl (by omega)) hb h1
  | eptr id ver i off a hv hle hh =>
    have hm := h.ver id
    refine .eptr id ver i off a hv (by omega) fun e => ?_
    obtain ⟨l, hl, ha⟩ := hh (by omega)
    exact ⟨l, h.loc id l hl (by omega), ha⟩
  | iptr e off b o hb hs hsc hc hv ih =>
    have hk := h.keep b hs hb
    refine .iptr e off b o hk.2 (Nat.lt_of_lt_of_le hs h.size) hsc (fun j x hj => ?_) (fun j x v hj hv' => ?_)
    · rw [cell?_keep h hs hb]; exact hc j x hj
    · rw [cell?_keep h hs hb] at hv'; exact ih j x v hj hv'
  | sl els tag a c b o sz hn ht ha hs hc hv ih =>
    refine .sl els tag a c b o sz hn ht (fun hne => ?_) hs (fun i e j x hi hj => ?_) (fun i e j x v hi hj hv' => ?_)
    · obtain ⟨h1, h2, h3⟩ := ha hne
      exact ⟨h1, (h.keep b h3 h2).2, Nat.lt_of_lt_of_le h3 h.size⟩
    · obtain ⟨h1, h2, h3⟩ := ha (by rintro rfl; simp at hi)
      rw [cell?_keep h h3 h2]; exact hc i e j x hi hj
    · obtain ⟨h1, h2, h3⟩ := ha (by rintro rfl; simp at hi)
      rw [cell?_keep h h3 h2] at hv'; exact ih i e j x v hi hj hv'
  | ob id ver sz off len a cap hl h1 hle hh =>
    have hm := h.ver id
    refine .ob id ver sz off len a cap hl h1 (by omega) fun e => ?_
    obtain ⟨l, row, t, hloc, hz, ha, hr, hs⟩ := hh (by omega)
    obtain ⟨row', hr', hs'⟩ := h.row id l hloc (by omega) row t hr
    exact ⟨l, row', t, h.loc id l hloc (by omega), hz, ha, hr', by omega⟩
  | mp id l hl h0 =>
    have h1 := h.zero id l hl h0
    exact .mp id l (h.loc id l hl (by omega)) h1
  | mpn => exact .mpn
  | fn f cap vs hs hv ih => exact .fn f cap vs hs fun i x v h1 h2 => ih i x v h1 h2
  | nilf => exact .nilf
  | agg cs vs hs hv ih => exact .agg cs vs hs fun i x v h1 h2 => ih i x v h1 h2
  | tup cs vs hs hv ih => exact .tup cs vs hs fun i x v h1 h2 => ih i x v h1 h2

def verOf (h : Heap) (id : Nat) : Nat := match h.get id with | some e => e.ver | none => 0

/-- What memory says of one object. -/
def ObjOk (C : Ctx) (id : Nat) : Option Ent → Prop
  | none => C.loc id = none
  | some ⟨.dead, v, _⟩ => C.loc id = none ∧ 1 ≤ v
  | some ⟨.var cs, v, _⟩ => v = 0 ∧ ∀ l, C.loc id = some l → C.own l.blk ∧ l.base = 0 ∧ ∃ row e, C.w.heap[l.blk]? = some (.cells row e (0, 0)) ∧ row.size = cs.length ∧ scalars cs = true ∧
      ∀ (i : Nat) (x : AV) (v : Value), cs[i]? = some x → row[i]? = some v → VR C x v
  | some ⟨.arr sz els ro, v, _⟩ => 1 ≤ v ∧ ∃ l, C.loc id = some l ∧ l.sz = sz ∧ (ro = false → C.own l.blk) ∧ (ro = true → ¬ C.own l.blk) ∧ sized sz els = true ∧ ∃ row e, C.w.heap[l.blk]? = some (.cells row e (0, 0)) ∧ l.base + els.length * sz ≤ row.size ∧
      ∀ (i j : Nat) (e : AV) (x : AV) (v : Value), els[i]? = some e → e.cells[j]? = some x → row[l.base + i * sz + j]? = some v → VR C x v
  | some ⟨.map es, v, _⟩ => v = 0 ∧ ∃ l, C.loc id = some l ∧ C.own l.blk ∧ l.base = 0 ∧ ∃ ms clock, C.w.heap[l.blk]? = some (.map ms clock) ∧ ms.size = es.length ∧
      ∀ (i : Nat) (p : AV × AV) (m : MapEntry), es[i]? = some p → ms[i]? = some m → VR C p.1 m.key ∧ VR C p.2 m.val
structure Sim (C : Ctx) (h : Heap) : Prop where
  ver : ∀ id, C.ver id = verOf h id
  fresh : ∀ id, h.next ≤ id → h.get id = none
  obj : ∀ id, ObjOk C id (h.get id)
  apart : ∀ i j li lj, i ≠ j → C.loc i = some li → C.loc j = some lj → C.own li.blk → li.blk ≠ lj.blk
  bound : ∀ b, C.own b → b < C.w.heap.size
  held : ∀ id, C.held id → C.loc id = none ∧ h.get id ≠ none

theorem Sim.lt {C : Ctx} {h : Heap} (S : Sim C h) {id : Nat} {l : Loc} (hl : C.loc id = some l) : id < h.next := by
  rcases Nat.lt_or_ge id h.next with h1 | h1
  · exact h1
  · have h2 := S.obj id
    rw [S.fresh id h1] at h2
    simp only [ObjOk] at h2
    rw [h2] at hl
    cases hl
theorem Sim.loc_lt {C : Ctx} {h : Heap} (S : Sim C h) {id : Nat} {l : Loc} (hl : C.loc id = some l) : l.blk < C.w.heap.size := by
  have h2 := S.obj id
  cases hg : h.get id with
  | none => rw [hg] at h2; simp only [ObjOk] at h2; rw [h2] at hl; cases hl
  | some e =>
    rw [hg] at h2
    obtain ⟨o, v, st⟩ := e
    cases o with
    | dead => simp only [ObjOk] at h2; rw [h2.1] at hl; cases hl
    | var cs => exact S.bound _ (h2.2 l hl).1
    | arr sz els ro =>
      obtain ⟨_, l', hl', _, _, _, _, row, e, hr, _⟩ := h2
      rw [hl] at hl'
      cases hl'
      exact (Array.getElem?_eq_some_iff.1 hr).1
    | map es =>
      obtain ⟨_, l', hl', ho, _⟩ := h2
      rw [hl] at hl'
      cases hl'
      exact S.bound _ ho

/-- What is told of an object stays where its place and block stay. -/
theorem ObjOk.stay {C C' : Ctx} (T : Trans C C') {id : Nat} {e : Option Ent} (hl : C'.loc id = C.loc id) (hb : ∀ l, C.loc id = some l → C'.w.heap[l.blk]? = C.w.heap[l.blk]?)
    (ho : ∀ l, C.loc id = some l → (C'.own l.blk ↔ C.own l.blk)) (h : ObjOk C id e) : ObjOk C' id e := by
  cases e with
  | none => simp only [ObjOk] at h ⊢; rw [hl]; exact h
  | some e =>
    obtain ⟨o, v, st⟩ := e
    cases o with
    | dead => simp only [ObjOk] at h ⊢; rw [hl]; exact h
    | var cs =>
      simp only [ObjOk] at h ⊢
      refine ⟨h.1, fun l hl' => ?_⟩
      rw [hl] at hl'
      obtain ⟨h1, h2, row, e, h3, h4, h5, h6⟩ := h.2 l hl'
      exact ⟨(ho l hl').2 h1, h2, row, e, (hb l hl').trans h3, h4, h5, fun i x v hx hv => (h6 i x v hx hv).trans T⟩
    | arr sz els ro =>
      simp only [ObjOk] at h ⊢
      obtain ⟨h0, l, h1, h2, h3, h4, h5, row, e, h6, h7, h8⟩ := h
      exact ⟨h0, l, hl.trans h1, h2, fun hr => (ho l h1).2 (h3 hr), fun hr hc => h4 hr ((ho l h1).1 hc), h5, row, e, (hb l h1).trans h6, h7, fun i j e x v hi hj hv => (h8 i j e x v hi hj hv).trans T⟩
    | map es =>
      simp only [ObjOk] at h ⊢
      obtain ⟨h0, l, h1, h2, h2', ms, clock, h3, h4, h5⟩ := h
      exact ⟨h0, l, hl.trans h1, (ho l h1).2 h2, h2', ms, clock, (hb l h1).trans h3, h4, fun i p m hi hm => ⟨(h5 i p m hi hm).1.trans T, (h5 i p m hi hm).2.trans T⟩⟩

/-- One object is turned, or comes; all others stay. -/
theorem Sim.step {C C' : Ctx} {h h' : Heap} (S : Sim C h) (T : Trans C C') (id : Nat) (hget : ∀ j, j ≠ id → h'.get j = h.get j) (hloc : ∀ j, j ≠ id → C'.loc j = C.loc j)
    (hver : ∀ j, C'.ver j = verOf h' j) (hblk : ∀ j l, j ≠ id → C.loc j = some l → C'.w.heap[l.blk]? = C.w.heap[l.blk]?)
    (hown : ∀ j l, j ≠ id → C.loc j = some l → (C'.own l.blk ↔ C.own l.blk)) (hfresh : ∀ j, h'.next ≤ j → h'.get j = none) (hid : ObjOk C' id (h'.get id))
    (hapart : ∀ j lj li, j ≠ id → C.loc j = some lj → C'.loc id = some li → (C'.own li.blk ∨ C'.own lj.blk) → li.blk ≠ lj.blk)
    (hbound : ∀ b, C'.own b → b < C'.w.heap.size) (hheld : ¬ C.held id) : Sim C' h' where
  ver := hver
  fresh := hfresh
  obj j := by
    by_cases e : j = id
    · rw [e]; exact hid
    · rw [hget j e]
      exact ObjOk.stay T (hloc j e) (fun l hl => hblk j l e hl) (fun l hl => hown j l e hl) (S.obj j)
  apart i j li lj hne hi hj ho := by
    by_cases ei : i = id
    · have ej : j ≠ id := fun e => hne (ei.trans e.symm)
      rw [ei] at hi
      rw [hloc j ej] at hj
      exact hapart j lj li ej hj hi (.inl ho)
    · rw [hloc i ei] at hi
      by_cases ej : j = id
      · rw [ej] at hj
        exact fun e => hapart i li lj ei hi hj (.inr ho) e.symm
      · rw [hloc j ej] at hj
        exact S.apart i j li lj hne hi hj ((hown i li ei hi).1 ho)
  bound := hbound
  held j hj := by
    rw [T.held] at hj
    have hne : j ≠ id := fun e => hheld (e ▸ hj)
    rw [hloc j hne, hget j hne]
    exact S.held j hj
theorem Sim.not_held {C : Ctx} {h : Heap} (S : Sim C h) {id : Nat} {l : Loc} (hl : C.loc id = some l) : ¬ C.held id := fun hh => by
  rw [(S.held id hh).1] at hl; cases hl
theorem Sim.next_not_held {C : Ctx} {h : Heap} (S : Sim C h) : ¬ C.held h.next := fun hh => (S.held _ hh).2 (S.fresh _ (Nat.le_refl _))

end Go.AM
