/- The abstract memory's steps: a new object, a write, an append, what is made inline. -/
import Derived.Test.YtlkhbglofkfioaaGreatA1
import Derived.Laws.CopyRow
import Derived.Laws.AppendOwn
import Derived.Deep.AppendLies
set_option linter.unusedVariables false
namespace Go.AM
open Go

theorem Heap.get_put (h : Heap) (id : Nat) (e : Ent) (j : Nat) : (h.put id e).get j = if j = id then some e else h.get j := Tr.get_set _ _ _ _
theorem Heap.get_push (h : Heap) (e : Ent) (j : Nat) : (h.push e).get j = if j = h.next then some e else h.get j := Tr.get_set _ _ _ _
theorem verOf_put (h : Heap) (id : Nat) (e : Ent) (j : Nat) : verOf (h.put id e) j = if j = id then e.ver else verOf h j := by
  unfold verOf; rw [Heap.get_put]; by_cases h1 : j = id <;> simp [h1]
theorem verOf_push (h : Heap) (e : Ent) (j : Nat) : verOf (h.push e) j = if j = h.next then e.ver else verOf h j := by
  unfold verOf; rw [Heap.get_push]; by_cases h1 : j = h.next <;> simp [h1]

/-! ### the same memory, another world -/
def Ctx.at_ (C : Ctx) (w : World) : Ctx := { C with w := w }
structure SameHeap (w w' : World) : Prop where
  heap : w'.heap = w.heap
  os : w'.os = w.os
  tape : w'.tape = w.tape
  output : w'.output = w.output
theorem Trans.same {C : Ctx} {w : World} (h : SameHeap C.w w) : Trans C (C.at_ w) where
  os := h.os
  tape := h.tape
  output := h.output
  size := by rw [show (C.at_ w).w = w from rfl, h.heap]; exact Nat.le_refl _
  keep b _ ho := ⟨by rw [show (C.at_ w).w = w from rfl, h.heap], ho⟩
  ver _ := Nat.le_refl _
  loc _ _ hl _ := hl
  zero _ _ _ h0 := h0
  row id l _ _ row e hr := ⟨row, by rw [show (C.at_ w).w = w from rfl, h.heap]; exact hr, rfl⟩
  held := rfl
theorem Sim.same {C : Ctx} {h : Heap} (S : Sim C h) {w : World} (hw : SameHeap C.w w) : Sim (C.at_ w) h where
  ver := S.ver
  fresh := S.fresh
  obj id := ObjOk.stay (Trans.same hw) rfl (fun l _ => by rw [show (C.at_ w).w = w from rfl, hw.heap]) (fun _ _ => Iff.rfl) (S.obj id)
  apart := S.apart
  bound b hb := by rw [show (C.at_ w).w = w from rfl, hw.heap]; exact S.bound b hb
  held := S.held

/-! ### an object that comes to lie in a new block -/
def Ctx.land (C : Ctx) (id v sz : Nat) (o : Go.Obj) : Ctx where
  loc j := if j = id then some ⟨C.w.heap.size, 0, sz⟩ else C.loc j
  own b := C.own b ∨ b = C.w.heap.size
  ver j := if j = id then v else C.ver j
  w := C.w.alloc o
  held := C.held
theorem alloc_old (w : World) (o : Go.Obj) (b : Nat) (hb : b < w.heap.size) : (w.alloc o).heap[b]? = w.heap[b]? := Go.RowKit.Below.heap_alloc w o b hb
theorem alloc_new (w : World) (o : Go.Obj) : (w.alloc o).heap[w.heap.size]? = some o := by
  show (w.heap.push o)[w.heap.size]? = _
  simp
theorem alloc_size (w : World) (o : Go.Obj) : (w.alloc o).heap.size = w.heap.size + 1 := by
  show (w.heap.push o).size = _
  simp
theorem Trans.land {C : Ctx} {id v sz : Nat} {o : Go.Obj} (hl : C.loc id = none) (hv : C.ver id ≤ v) (hbl : ∀ j l, C.loc j = some l → l.blk < C.w.heap.size) : Trans C (C.land id v sz o) where
  os := rfl
  tape := rfl
  output := rfl
  size := by rw [show (C.land id v sz o).w = C.w.alloc o from rfl, alloc_size]; omega
  keep b hb ho := ⟨alloc_old _ _ _ hb, fun h => h.elim ho (fun e => by subst e; omega)⟩
  ver j := by
    show C.ver j ≤ if j = id then v else C.ver j
    split
    · rename_i e; rw [e]; exact hv
    · exact Nat.le_refl _
  loc j l hj _ := by
    show (if j = id then _ else C.loc j) = some l
    rw [if_neg (fun e => by rw [e, hl] at hj; cases hj)]; exact hj
  zero j l hj h0 := by
    show (if j = id then v else C.ver j) = 0
    rw [if_neg (fun e => by rw [e, hl] at hj; cases hj)]; exact h0
  row j l hj _ row e hr := ⟨row, (alloc_old _ _ _ (hbl j l hj)).trans hr, rfl⟩
  held := rfl
/-- The object id is turned (or comes), and lies in the new block. -/
theorem Sim.land {C : Ctx} {h h' : Heap} (S : Sim C h) (id v sz : Nat) (o : Go.Obj) (hl : C.loc id = none) (hle : C.ver id ≤ v) (hget : ∀ j, j ≠ id → h'.get j = h.get j) (hv : verOf h' id = v)
    (hfresh : ∀ j, h'.next ≤ j → h'.get j = none) (hid : ObjOk (C.land id v sz o) id (h'.get id)) (hheld : ¬ C.held id) : Sim (C.land id v sz o) h' := by
  have T : Trans C (C.land id v sz o) := Trans.land hl hle (fun j l hj => S.loc_lt hj)
  refine S.step T id hget (fun j hj => by show (if j = id then _ else C.loc j) = C.loc j; rw [if_neg hj]) (fun j => ?_) (fun j l _ hj => alloc_old _ _ _ (S.loc_lt hj))
    (fun j l _ hj => ⟨fun h => ?_, fun h => .inl h⟩) hfresh hid (fun j lj li hj hlj hli _ => ?_) (fun b hb => ?_) hheld
  · show (if j = id then v else C.ver j) = verOf h' j
    by_cases e : j = id
    · rw [if_pos e, e, hv]
    · rw [if_neg e, S.ver j]
      unfold verOf
      rw [hget j e]
  · rcases h with h | h
    · exact h
    · have := S.loc_lt hj
      omega
  · have h2 : (if id = id then some (⟨C.w.heap.size, 0, sz⟩ : Loc) else C.loc id) = some li := hli
    rw [if_pos rfl] at h2
    cases h2
    have := S.loc_lt hlj
    show C.w.heap.size ≠ lj.blk
    omega
  · rw [show (C.land id v sz o).w = C.w.alloc o from rfl, alloc_size]
    rcases hb with hb | hb
    · have := S.bound b hb
      omega
    · omega

/-! ### a block of one's own is written -/
structure Wrote (w w' : World) (g : Nat) : Prop where
  os : w'.os = w.os
  tape : w'.tape = w.tape
  output : w'.output = w.output
  size : w'.heap.size = w.heap.size
  other : ∀ b, b ≠ g → w'.heap[b]? = w.heap[b]?
  row : ∀ row e, w.heap[g]? = some (.cells row e (0, 0)) → ∃ row', w'.heap[g]? = some (.cells row' e (0, 0)) ∧ row'.size = row.size
theorem Wrote.setRow {w : World} {g : Nat} {row : Array Value} {e : TypeId} (hg : w.heap[g]? = some (.cells row e (0, 0))) (row' : Array Value) (hs : row'.size = row.size) : Wrote w (w.setRow g row') g where
  os := rfl
  tape := rfl
  output := rfl
  size := by simp [World.setRow]
  other b hb := setRow_other w g b row' hb
  row r t hr := by
    rw [hg] at hr
    cases hr
    exact ⟨row', setRow_heap w g row row' e (0, 0) hg, hs⟩
theorem Trans.wrote {C : Ctx} {w : World} {g : Nat} (W : Wrote C.w w g) (ho : C.own g) : Trans C (C.at_ w) where
  os := W.os
  tape := W.tape
  output := W.output
  size := by rw [show (C.at_ w).w = w from rfl, W.size]; exact Nat.le_refl _
  keep b _ hb := ⟨W.other b (fun e => hb (e ▸ ho)), hb⟩
  ver _ := Nat.le_refl _
  loc _ _ hl _ := hl
  zero _ _ _ h0 := h0
  row id l _ _ row e hr := by
    by_cases hb : l.blk = g
    · rw [hb] at hr ⊢; exact W.row row e hr
    · exact ⟨row, (W.other _ hb).trans hr, rfl⟩
  held := rfl
theorem Sim.wrote {C : Ctx} {h h' : Heap} (S : Sim C h) (id : Nat) (l : Loc) {w : World} (W : Wrote C.w w l.blk) (hl : C.loc id = some l) (ho : C.own l.blk)
    (hget : ∀ j, j ≠ id → h'.get j = h.get j) (hv : verOf h' id = verOf h id) (hfresh : ∀ j, h'.next ≤ j → h'.get j = none) (hid : ObjOk (C.at_ w) id (h'.get id)) : Sim (C.at_ w) h' := by
  refine S.step (Trans.wrote W ho) id hget (fun _ _ => rfl) (fun j => ?_) (fun j lj hj hlj => W.other _ (fun e => S.apart id j l lj (Ne.symm hj) hl hlj ho e.symm)) (fun _ _ _ _ => Iff.rfl) hfresh hid
    (fun j lj li hj hlj hli _ => ?_) (fun b hb => ?_) (S.not_held hl)
  · show C.ver j = verOf h' j
    rw [S.ver j]
    by_cases e : j = id
    · rw [e, hv]
    · unfold verOf; rw [hget j e]
  · have h2 : C.loc id = some li := hli
    rw [hl] at h2
    cases h2
    exact S.apart id j l lj (Ne.symm hj) hl hlj ho
  · rw [show (C.at_ w).w = w from rfl, W.size]; exact S.bound b hb

/-! ### an array of a new version: in place, elsewhere, or nowhere -/
def Ctx.turn (C : Ctx) (id v : Nat) (l' : Option Loc) (own' : Nat → Prop) (w : World) : Ctx where
  loc j := if j = id then l' else C.loc j
  own := own'
  ver j := if j = id then v else C.ver j
  w := w
  held := C.held
/-- What a world's step leaves: all blocks but those that were one's own; rows stay as long. -/
structure Stays (w w' : World) (g : Nat) : Prop where
  os : w'.os = w.os
  tape : w'.tape = w.tape
  output : w'.output = w.output
  size : w.heap.size ≤ w'.heap.size
  other : ∀ b, b < w.heap.size → b ≠ g → w'.heap[b]? = w.heap[b]?
theorem Trans.turn {C : Ctx} {id v : Nat} {l' : Option Loc} {own' : Nat → Prop} {w : World} {l : Loc} (hl : C.loc id = some l) (ho : C.own l.blk) (hv : C.ver id < v) (h0 : C.ver id ≠ 0) (hw : Stays C.w w l.blk)
    (hown : ∀ b, b < C.w.heap.size → own' b → C.own b) (hap : ∀ j lj, j ≠ id → C.loc j = some lj → lj.blk ≠ l.blk ∧ lj.blk < C.w.heap.size) : Trans C (C.turn id v l' own' w) where
  os := hw.os
  tape := hw.tape
  output := hw.output
  size := hw.size
  keep b hb hn := ⟨hw.other b hb (fun e => hn (e ▸ ho)), fun h => hn (hown b hb h)⟩
  ver j := by
    show C.ver j ≤ if j = id then v else C.ver j
    split
    · rename_i e; rw [e]; omega
    · exact Nat.le_refl _
  loc j lj hj hvj := by
    have h1 : (if j = id then v else C.ver j) = C.ver j := hvj
    by_cases e : j = id
    · rw [if_pos e, e] at h1; omega
    · show (if j = id then l' else C.loc j) = some lj
      rw [if_neg e]; exact hj
  zero j lj hj hz := by
    show (if j = id then v else C.ver j) = 0
    by_cases e : j = id
    · rw [e] at hz; exact absurd hz h0
    · rw [if_neg e]; exact hz
  row j lj hj hvj row e hr := by
    have h1 : (if j = id then v else C.ver j) = C.ver j := hvj
    by_cases ej : j = id
    · rw [if_pos ej, ej] at h1; omega
    · obtain ⟨h2, h3⟩ := hap j lj ej hj
      exact ⟨row, (hw.other _ h3 h2).trans hr, rfl⟩
  held := rfl
theorem Sim.turn {C : Ctx} {h h' : Heap} (S : Sim C h) {id v : Nat} {l' : Option Loc} {own' : Nat → Prop} {w : World} {l : Loc} (hl : C.loc id = some l) (ho : C.own l.blk) (hv : C.ver id < v) (h0 : C.ver id ≠ 0) (hw : Stays C.w w l.blk)
    (hown : ∀ b, b < C.w.heap.size → (own' b → C.own b) ∧ (b ≠ l.blk → C.own b → own' b)) (hget : ∀ j, j ≠ id → h'.get j = h.get j) (hvo : verOf h' id = v) (hfresh : ∀ j, h'.next ≤ j → h'.get j = none)
    (hid : ObjOk (C.turn id v l' own' w) id (h'.get id)) (hap' : ∀ li, l' = some li → li.blk = l.blk ∨ C.w.heap.size ≤ li.blk) (hbound : ∀ b, own' b → b < w.heap.size) :
    Trans C (C.turn id v l' own' w) ∧ Sim (C.turn id v l' own' w) h' := by
  have hap : ∀ j lj, j ≠ id → C.loc j = some lj → lj.blk ≠ l.blk ∧ lj.blk < C.w.heap.size := fun j lj hj hlj => ⟨fun e => S.apart id j l lj (Ne.symm hj) hl hlj ho e.symm, S.loc_lt hlj⟩
  have T : Trans C (C.turn id v l' own' w) := Trans.turn hl ho hv h0 hw (fun b hb => (hown b hb).1) hap
  refine ⟨T, S.step T id hget (fun j hj => by show (if j = id then _ else C.loc j) = C.loc j; rw [if_neg hj]) (fun j => ?_) (fun j lj hj hlj => hw.other _ (hap j lj hj hlj).2 (hap j lj hj hlj).1)
    (fun j lj hj hlj => ⟨(hown _ (hap j lj hj hlj).2).1, (hown _ (hap j lj hj hlj).2).2 (hap j lj hj hlj).1⟩) hfresh hid (fun j lj li hj hlj hli _ => ?_) hbound (S.not_held hl)⟩
  · show (if j = id then v else C.ver j) = verOf h' j
    by_cases e : j = id
    · rw [if_pos e, e, hvo]
    · rw [if_neg e, S.ver j]; unfold verOf; rw [hget j e]
  · have h2 : (if id = id then l' else C.loc id) = some li := hli
    rw [if_pos rfl] at h2
    obtain ⟨h3, h4⟩ := hap j lj hj hlj
    rcases hap' li h2 with h5 | h5
    · rw [h5]; exact Ne.symm h3
    · omega
/-- An array that is no more written: its block is nobody's own. -/
def Ctx.rest (C : Ctx) (g : Nat) (w : World) : Ctx where
  loc := C.loc
  own b := C.own b ∧ b ≠ g
  ver := C.ver
  w := w
  held := C.held
theorem Sim.rest {C : Ctx} {h h' : Heap} (S : Sim C h) {id : Nat} {w : World} {l : Loc} (hl : C.loc id = some l) (ho : C.own l.blk) (hw : Stays C.w w l.blk)
    (hrow : ∀ row e, C.w.heap[l.blk]? = some (.cells row e (0, 0)) → ∃ row', w.heap[l.blk]? = some (.cells row' e (0, 0)) ∧ row'.size = row.size)
    (hget : ∀ j, j ≠ id → h'.get j = h.get j) (hvo : verOf h' id = verOf h id) (hfresh : ∀ j, h'.next ≤ j → h'.get j = none) (hid : Trans C (C.rest l.blk w) → ObjOk (C.rest l.blk w) id (h'.get id)) :
    Trans C (C.rest l.blk w) ∧ Sim (C.rest l.blk w) h' := by
  have hap : ∀ j lj, j ≠ id → C.loc j = some lj → lj.blk ≠ l.blk ∧ lj.blk < C.w.heap.size := fun j lj hj hlj => ⟨fun e => S.apart id j l lj (Ne.symm hj) hl hlj ho e.symm, S.loc_lt hlj⟩
  have T : Trans C (C.rest l.blk w) := {
    os := hw.os, tape := hw.tape, output := hw.output, size := hw.size
    keep := fun b hb hn => ⟨hw.other b hb (fun e => hn (e ▸ ho)), fun h => hn h.1⟩
    ver := fun _ => Nat.le_refl _, loc := fun _ _ hl _ => hl, zero := fun _ _ _ h0 => h0
    row := fun j lj hj _ row e hr => by
      by_cases ej : j = id
      · rw [ej, hl] at hj
        cases hj
        exact hrow row e hr
      · exact ⟨row, (hw.other _ (hap j lj ej hj).2 (hap j lj ej hj).1).trans hr, rfl⟩
    held := rfl }
  refine ⟨T, S.step T id hget (fun _ _ => rfl) (fun j => ?_) (fun j lj hj hlj => hw.other _ (hap j lj hj hlj).2 (hap j lj hj hlj).1)
    (fun j lj hj hlj => ⟨fun h => h.1, fun h => ⟨h, (hap j lj hj hlj).1⟩⟩) hfresh (hid T) (fun j lj li hj hlj hli _ => ?_) (fun b hb => Nat.lt_of_lt_of_le (S.bound b hb.1) hw.size) (S.not_held hl)⟩
  · show C.ver j = verOf h' j
    rw [S.ver j]
    by_cases e : j = id
    · rw [e, hvo]
    · unfold verOf; rw [hget j e]
  · have h2 : C.loc id = some li := hli
    rw [hl] at h2
    cases h2
    exact Ne.symm (hap j lj hj hlj).1
theorem Stays.same {w w' : World} (h : SameHeap w w') (g : Nat) : Stays w w' g := ⟨h.os, h.tape, h.output, by rw [h.heap]; exact Nat.le_refl _, fun b _ _ => by rw [h.heap]⟩
theorem Stays.wrote {w w' : World} {g : Nat} (h : Wrote w w' g) : Stays w w' g := ⟨h.os, h.tape, h.output, by rw [h.size]; exact Nat.le_refl _, fun b _ hb => h.other b hb⟩
theorem Stays.alloc (w : World) (o : Go.Obj) (g : Nat) : Stays w (w.alloc o) g := ⟨rfl, rfl, rfl, by rw [alloc_size]; omega, fun b hb _ => alloc_old w o b hb⟩

end Go.AM
