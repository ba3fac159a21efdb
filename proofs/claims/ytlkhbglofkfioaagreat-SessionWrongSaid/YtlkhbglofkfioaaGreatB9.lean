/- Regions that draw their order: whatever the order, what comes is what comes in the text's order. -/
import Derived.Test.YtlkhbglofkfioaaGreatB8
set_option linter.unusedVariables false
set_option linter.unusedSimpArgs false
namespace Go.AM
open Go
/-! ### what is held -/
def Ctx.setHeld (C : Ctx) (H : Nat → Prop) : Ctx := { C with held := H }
theorem VR.setHeld {C : Ctx} (H : Nat → Prop) {a : AV} {v : Value} (h : VR C a v) : VR (C.setHeld H) a v := by
  induction h with
  | int k n => exact .int k n
  | bool b => exact .bool b
  | wild k n => exact .wild k n
  | str l s h => exact .str l s h
  | nilp => exact .nilp
  | ptr id off l hl hb h0 => exact .ptr id off l hl hb h0
  | eptr id ver i off a hv hle hh => exact .eptr id ver i off a hv hle hh
  | iptr e off b o hb hs hsc hc hv ih => exact .iptr e off b o hb hs hsc hc ih
  | sl els tag a c b o sz hn ht ha hs hc hv ih => exact .sl els tag a c b o sz hn ht ha hs hc ih
  | ob id ver sz off len a cap hl h1 hle hh => exact .ob id ver sz off len a cap hl h1 hle hh
  | mp id l hl h0 => exact .mp id l hl h0
  | mpn => exact .mpn
  | fn f cap vs hs hv ih => exact .fn f cap vs hs ih
  | nilf => exact .nilf
  | agg cs vs hs hv ih => exact .agg cs vs hs ih
  | tup cs vs hs hv ih => exact .tup cs vs hs ih
theorem ObjOk.setHeld {C : Ctx} (H : Nat → Prop) {id : Nat} {e : Option Ent} (h : ObjOk C id e) : ObjOk (C.setHeld H) id e := by
  cases e with
  | none => exact h
  | some e =>
    obtain ⟨o, v, st⟩ := e
    cases o with
    | dead => exact h
    | var cs =>
      simp only [ObjOk] at h ⊢
      refine ⟨h.1, fun l hl => ?_⟩
      obtain ⟨h1, h2, row, e, h3, h4, h5, h6⟩ := h.2 l hl
      exact ⟨h1, h2, row, e, h3, h4, h5, fun i x v hx hv => (h6 i x v hx hv).setHeld H⟩
    | arr sz els ro =>
      simp only [ObjOk] at h ⊢
      obtain ⟨h0, l, h1, h2, h3, h4, h5, row, e, h6, h7, h8⟩ := h
      exact ⟨h0, l, h1, h2, h3, h4, h5, row, e, h6, h7, fun i j e x v hi hj hv => (h8 i j e x v hi hj hv).setHeld H⟩
    | map es =>
      simp only [ObjOk] at h ⊢
      obtain ⟨h0, l, h1, h2, h2', ms, clock, h3, h4, h5⟩ := h
      exact ⟨h0, l, h1, h2, h2', ms, clock, h3, h4, fun i p m hi hm => ⟨(h5 i p m hi hm).1.setHeld H, (h5 i p m hi hm).2.setHeld H⟩⟩
theorem Sim.setHeld {C : Ctx} {h : Heap} (S : Sim C h) {H : Nat → Prop} (hH : ∀ id, H id → C.held id) : Sim (C.setHeld H) h :=
  ⟨S.ver, S.fresh, fun id => (S.obj id).setHeld H, S.apart, S.bound, fun id hid => S.held id (hH id hid)⟩
theorem TR.setHeld {C : Ctx} {t : Tmps} {a : Act} {n : Nat} (h : TR C t a n) (H : Nat → Prop) : TR (C.setHeld H) t a n := ⟨h.size, h.defers, fun i => (h.vr i).setHeld H⟩
theorem Trans.setHeld {C C' : Ctx} (T : Trans C C') (H : Nat → Prop) : Trans (C.setHeld H) (C'.setHeld H) := ⟨T.os, T.tape, T.output, T.size, T.keep, T.ver, T.loc, T.zero, T.row, rfl⟩
/-- One more object is told of, and lies nowhere. -/
theorem Sim.reserve {C : Ctx} {h : Heap} (S : Sim C h) (cells : List AV) {H : Nat → Prop} (hH : ∀ id, H id → C.held id ∨ id = h.next) : Sim (C.setHeld H) (h.push ⟨.var cells, 0, 0⟩) := by
  obtain ⟨h1, h2⟩ := fresh_loc S
  refine ⟨fun j => ?_, push_fresh S _, fun j => ?_, S.apart, S.bound, fun j hj => ?_⟩
  · show C.ver j = _
    rw [verOf_push]
    by_cases e : j = h.next
    · rw [if_pos e, e, h2]
    · rw [if_neg e]; exact S.ver j
  · rw [Heap.get_push]
    by_cases e : j = h.next
    · rw [if_pos e]
      refine ⟨rfl, fun l hl => ?_⟩
      have hl' : C.loc j = some l := hl
      rw [e, h1] at hl'
      cases hl'
    · rw [if_neg e]; exact (S.obj j).setHeld H
  · rw [Heap.get_push]
    show C.loc j = none ∧ _
    rcases hH j hj with h3 | h3
    · obtain ⟨h4, h5⟩ := S.held j h3
      refine ⟨h4, ?_⟩
      split
      · simp
      · exact h5
    · rw [h3, if_pos rfl]; exact ⟨h1, by simp⟩
theorem allocsOf_ok : ∀ (l : List AOper) (C : Ctx) (h : Heap), Sim C h → Sim (C.setHeld fun id => C.held id ∨ ∃ k o, l[k]? = some o ∧ o.isAlloc = true ∧ id = h.next + allocN l k) (allocsOf l h) ∧
    (∀ k o cells, l[k]? = some o → o.op = .alloc cells → (allocsOf l h).get (h.next + allocN l k) = some ⟨.var cells, 0, 0⟩) ∧ (∀ id, id < h.next → (allocsOf l h).get id = h.get id) ∧ h.next ≤ (allocsOf l h).next
  | [], C, h, S => by
    refine ⟨S.setHeld fun id hid => hid.elim _root_.id fun ⟨k, o, hk, _⟩ => by simp at hk, fun k o cells hk => by simp at hk, fun _ _ => rfl, Nat.le_refl _⟩
  | o :: l, C, h, S => by
    cases ha : o.isAlloc with
    | true =>
      obtain ⟨cells, hc⟩ := alloc_op ha
      have e : allocsOf (o :: l) h = allocsOf l (h.push ⟨.var cells, 0, 0⟩) := by simp only [allocsOf, hc]
      have hn : (h.push ⟨.var cells, 0, 0⟩).next = h.next + 1 := rfl
      have S1 := S.reserve cells (H := fun id => C.held id ∨ id = h.next) fun id hid => hid
      obtain ⟨h1, h2, h3, h4⟩ := allocsOf_ok l _ _ S1
      rw [e]
      rw [hn] at h1 h2 h3 h4
      refine ⟨?_, fun k x cs hk hx => ?_, fun id hid => ?_, by omega⟩
      · have := h1.setHeld (H := fun id => C.held id ∨ ∃ k x, (o :: l)[k]? = some x ∧ x.isAlloc = true ∧ id = h.next + allocN (o :: l) k) fun id hid => by
          rcases hid with hid | ⟨k, x, hk, hx, he⟩
          · exact .inl (.inl hid)
          · cases k with
            | zero => exact .inl (.inr (by rw [allocN_zero] at he; omega))
            | succ k => exact .inr ⟨k, x, by simpa using hk, hx, by rw [he]; simp only [allocN, ha, cond_true]; omega⟩
        exact this
      · cases k with
        | zero =>
          simp at hk
          subst hk
          rw [hc] at hx
          cases hx
          rw [allocN_zero, Nat.add_zero, h3 _ (by omega), Heap.get_push, if_pos rfl]
        | succ k =>
          have := h2 k x cs (by simpa using hk) hx
          rw [← this]
          simp only [allocN, ha, cond_true]
          congr 1; omega
      · rw [h3 id (by omega), Heap.get_push, if_neg (by omega)]
    | false =>
      have e : allocsOf (o :: l) h = allocsOf l h := by
        simp only [allocsOf]
        split
        · rename_i cells hc; simp [AOper.isAlloc, hc] at ha
        · rfl
      obtain ⟨h1, h2, h3, h4⟩ := allocsOf_ok l C h S
      rw [e]
      refine ⟨?_, fun k x cs hk hx => ?_, h3, h4⟩
      · have := h1.setHeld (H := fun id => C.held id ∨ ∃ k x, (o :: l)[k]? = some x ∧ x.isAlloc = true ∧ id = h.next + allocN (o :: l) k) fun id hid => by
          rcases hid with hid | ⟨k, x, hk, hx, he⟩
          · exact .inl hid
          · cases k with
            | zero => simp at hk; subst hk; rw [ha] at hx; cases hx
            | succ k => exact .inr ⟨k, x, by simpa using hk, hx, by rw [he]; simp only [allocN, ha, cond_false]; omega⟩
        exact this
      · cases k with
        | zero => simp at hk; subst hk; simp [AOper.isAlloc, hx] at ha
        | succ k =>
          have := h2 k x cs (by simpa using hk) hx
          rw [← this]
          simp only [allocN, ha, cond_false]
          congr 1; omega

/-! ### what comes surely ahead -/
def dirs (o : Oper) : List Nat := (o.after.toList.filter fun e => Region.binds .any e).map (·.on)
theorem presOf_old : ∀ (l : List Oper) (acc : List (List Nat)) (j : Nat), j < acc.length → (presOf l acc)[j]? = acc[j]?
  | [], acc, j, hj => rfl
  | o :: l, acc, j, hj => by
    simp only [presOf]
    rw [presOf_old l _ j (by simp; omega), List.getElem?_append_left hj]
theorem presOf_at : ∀ (l : List Oper) (acc : List (List Nat)) (i : Nat) (o : Oper), l[i]? = some o → ∀ j, j ∈ (presOf l acc).getD (acc.length + i) [] ↔ j ∈ dirs o ∨ ∃ k ∈ dirs o, k < acc.length + i ∧ j ∈ (presOf l acc).getD k []
  | [], acc, i, o, h, j => by simp at h
  | p :: l, acc, 0, o, h, j => by
    simp at h
    subst h
    have hold : ∀ k, k < acc.length + 1 → (presOf (p :: l) acc).getD k [] = (acc ++ [dirs p ++ (dirs p).flatMap fun j => acc.getD j []]).getD k [] := by
      intro k hk
      rw [List.getD_eq_getElem?_getD, List.getD_eq_getElem?_getD]
      show (presOf l (acc ++ [dirs p ++ (dirs p).flatMap fun j => acc.getD j []]))[k]?.getD [] = _
      rw [presOf_old l _ k (by simp; omega)]
    rw [Nat.add_zero, hold acc.length (by omega)]
    have e1 : (acc ++ [dirs p ++ (dirs p).flatMap fun j => acc.getD j []]).getD acc.length [] = dirs p ++ (dirs p).flatMap fun j => acc.getD j [] := by
      rw [List.getD_eq_getElem?_getD, List.getElem?_append_right (Nat.le_refl _)]; simp
    rw [e1, List.mem_append, List.mem_flatMap]
    have e2 : ∀ k, k < acc.length → (acc ++ [dirs p ++ (dirs p).flatMap fun j => acc.getD j []]).getD k [] = acc.getD k [] := by
      intro k hk
      rw [List.getD_eq_getElem?_getD, List.getElem?_append_left hk, List.getD_eq_getElem?_getD]
    constructor
    · rintro (h | ⟨k, hk, hj⟩)
      · exact .inl h
      · have hlt : k < acc.length := by
          rcases Nat.lt_or_ge k acc.length with h1 | h1
          · exact h1
          · rw [List.getD_eq_getElem?_getD, List.getElem?_eq_none h1] at hj; simp at hj
        exact .inr ⟨k, hk, hlt, by rw [hold k (by omega), e2 k hlt]; exact hj⟩
    · rintro (h | ⟨k, hk, hlt, hj⟩)
      · exact .inl h
      · rw [hold k (by omega), e2 k hlt] at hj
        exact .inr ⟨k, hk, hj⟩
  | p :: l, acc, i + 1, o, h, j => by
    have := presOf_at l (acc ++ [dirs p ++ (dirs p).flatMap fun j => acc.getD j []]) i o (by simpa using h) j
    have e1 : (acc ++ [dirs p ++ (dirs p).flatMap fun j => acc.getD j []]).length + i = acc.length + (i + 1) := by simp; omega
    rw [e1] at this
    exact this
theorem zipIdx_all {α : Type} {l : List α} {p : α × Nat → Bool} (h : l.zipIdx.all p = true) {i : Nat} {x : α} (hx : l[i]? = some x) : p (x, i) = true := by
  rw [List.all_eq_true] at h
  refine h _ (List.mem_iff_getElem?.2 ⟨i, ?_⟩)
  rw [List.getElem?_zipIdx, hx]; simp

/-- What the check says. -/
structure DregSays (l : List AOper) (pres : List (List Nat)) : Prop where
  reads : ∀ (i : Nat) (o : AOper) (j : Nat) (q : AOper) (d : Nat), l[i]? = some o → l[j]? = some q → q.dst = some d → d ∈ o.reads → (j < i ∧ j ∈ pres.getD i []) ∨ (i < j ∧ i ∈ pres.getD j [])
  once : ∀ (i : Nat) (o : AOper) (j : Nat) (q : AOper) (d : Nat), l[i]? = some o → l[j]? = some q → o.dst = some d → q.dst = some d → i = j
  line : ∀ (i : Nat) (o : AOper) (j : Nat) (q : AOper), l[i]? = some o → l[j]? = some q → o.acts = true → q.acts = true → j < i → j ∈ pres.getD i []
theorem dregOk_says {l : List AOper} {pres : List (List Nat)} (h : dregOk l pres = true) : DregSays l pres := by
  have key : ∀ i o j q, l[i]? = some o → l[j]? = some q → _ := fun i o j q hi hj => zipIdx_all (zipIdx_all h hi) hj
  have once : ∀ (i : Nat) (o : AOper) (j : Nat) (q : AOper) (d : Nat), l[i]? = some o → l[j]? = some q → o.dst = some d → q.dst = some d → j < i → False := by
    intro i o j q d hi hj ho hq hlt
    have := key i o j q hi hj
    simp only [Bool.and_eq_true, if_pos hlt, ho, hq] at this
    simp at this
  refine ⟨fun i o j q d hi hj hq hr => ?_, fun i o j q d hi hj ho hq => ?_, fun i o j q hi hj ho hq hlt => ?_⟩
  · have := key i o j q hi hj
    simp only [Bool.and_eq_true, hq] at this
    have h1 := this.1
    have hc : o.reads.contains d = true := by simpa using hr
    rw [hc] at h1
    simp only [Bool.not_true, Bool.false_or] at h1
    by_cases hlt : j < i
    · rw [if_pos hlt] at h1
      exact .inl ⟨hlt, by simpa using h1⟩
    · rw [if_neg hlt] at h1
      simp only [Bool.and_eq_true, bne_iff_ne, ne_eq] at h1
      exact .inr ⟨by omega, by simpa using h1.2⟩
  · rcases Nat.lt_trichotomy i j with hlt | he | hlt
    · exact (once j q i o d hj hi hq ho hlt).elim
    · exact he
    · exact (once i o j q d hi hj ho hq hlt).elim
  · have := key i o j q hi hj
    simp only [Bool.and_eq_true, if_pos hlt, ho, hq] at this
    have h2 := this.2.2
    simpa using h2
theorem upward_says {ops : List Oper} (h : upward ops = true) {i : Nat} {o : Oper} (hi : ops[i]? = some o) {j : Nat} (hj : j ∈ dirs o) : j < i := by
  have := zipIdx_all h hi
  simp only [List.all_eq_true, Bool.or_eq_true, Bool.not_eq_true', decide_eq_true_eq] at this
  unfold dirs at hj
  obtain ⟨e, he, rfl⟩ := List.mem_map.1 hj
  obtain ⟨h1, h2⟩ := List.mem_filter.1 he
  rcases this e h1 with h3 | h3
  · rw [h3] at h2; cases h2
  · exact h3

end Go.AM
