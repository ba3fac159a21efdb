/- Operations that make memory. -/
import Derived.Test.YtlkhbglofkfioaaGreatA6
import Derived.Laws.MakeOwn
import Derived.IntWalk
set_option linter.unusedVariables false
set_option linter.unusedSimpArgs false
namespace Go.AM
open Go
section
variable {P : Program} {T : Types} {o : Oper} {a : Act} {C : Ctx} {h : Heap} {t : Tmps} {n : Nat}

theorem VRs.trans {C C' : Ctx} (T : Trans C C') {cs : List AV} {vs : Array Value} (h : VRs C cs vs) : VRs C' cs vs := ⟨h.1, fun i x v hx hv => (h.2 i x v hx hv).trans T⟩
/-! ### rows of elements -/
def flat (els : List AV) : List AV := els.flatMap AV.cells
theorem flat_length {sz : Nat} : ∀ {els : List AV}, sized sz els = true → (flat els).length = els.length * sz
  | [], _ => by simp [flat]
  | e :: els, h => by
    simp only [sized, List.all_cons, Bool.and_eq_true] at h
    have h1 := Nat.eq_of_beq_eq_true h.1.1
    have ih := flat_length (els := els) h.2
    simp only [flat, List.flatMap_cons, List.length_append] at ih ⊢
    rw [ih, h1, List.length_cons, Nat.add_mul]
    omega
theorem flat_get {sz : Nat} : ∀ {els : List AV} {i j : Nat} {e : AV}, sized sz els = true → els[i]? = some e → j < sz → (flat els)[i * sz + j]? = e.cells[j]?
  | [], i, j, e, _, hi, _ => by simp at hi
  | e0 :: els, i, j, e, h, hi, hj => by
    simp only [sized, List.all_cons, Bool.and_eq_true] at h
    have h1 := Nat.eq_of_beq_eq_true h.1.1
    simp only [flat, List.flatMap_cons]
    cases i with
    | zero =>
      simp only [List.getElem?_cons_zero, Option.some.injEq] at hi
      subst hi
      rw [List.getElem?_append_left (by omega)]
      simp
    | succ i =>
      rw [List.getElem?_append_right (by rw [h1, Nat.add_mul]; omega)]
      have := flat_get (els := els) (i := i) (j := j) (e := e) h.2 (by simpa using hi) hj
      rw [← this]
      simp only [flat]
      congr 1
      rw [h1, Nat.add_mul]
      omega
/-- A row whose cells, one behind the other, are the elements'. -/
def RowOf (C : Ctx) (sz : Nat) (els : List AV) (row : Array Value) (base : Nat) : Prop :=
  ∀ (i j : Nat) (e : AV) (x : AV) (v : Value), els[i]? = some e → e.cells[j]? = some x → row[base + i * sz + j]? = some v → VR C x v
theorem RowOf.ofFlat {sz : Nat} {els : List AV} {row : Array Value} (hs : sized sz els = true) (h : VRs C (flat els) row) : RowOf C sz els row 0 := by
  intro i j e x v hi hj hv
  have hjl : j < sz := by rw [← (sized_at hs hi).1]; exact (List.getElem?_eq_some_iff.1 hj).1
  refine h.2 (i * sz + j) x v ?_ (by simpa using hv)
  rw [flat_get hs hi hjl]; exact hj
theorem flat_set {sz : Nat} : ∀ {els : List AV} {i : Nat} {v : AV}, sized sz els = true → i < els.length → v.cells.length = sz → flat (els.set i v) = splice (flat els) (i * sz) v.cells
  | [], i, v, _, hi, _ => by simp at hi
  | e0 :: els, i, v, h, hi, hv => by
    have h0 := h
    simp only [sized, List.all_cons, Bool.and_eq_true] at h
    have h1 := Nat.eq_of_beq_eq_true h.1.1
    cases i with
    | zero =>
      simp only [List.set_cons_zero, flat, List.flatMap_cons, splice, Nat.zero_mul, List.take_zero, List.nil_append, Nat.zero_add]
      rw [hv, ← h1, List.drop_left]
    | succ i =>
      have ih := flat_set (els := els) (i := i) (v := v) h.2 (by simpa using hi) hv
      simp only [List.set_cons_succ, flat, List.flatMap_cons] at ih ⊢
      rw [ih]
      simp only [splice]
      have e1 : (i + 1) * sz = e0.cells.length + i * sz := by rw [h1, Nat.add_mul]; omega
      rw [e1, List.take_append, List.drop_append]
      have e2 : e0.cells.length + i * sz - e0.cells.length = i * sz := by omega
      have e3 : List.take (e0.cells.length + i * sz) e0.cells = e0.cells := List.take_of_length_le (by omega)
      have e4 : List.drop (e0.cells.length + i * sz + v.cells.length) e0.cells = [] := List.drop_of_length_le (by omega)
      have e5 : e0.cells.length + i * sz + v.cells.length - e0.cells.length = i * sz + v.cells.length := by omega
      rw [e2, e3, e4, e5]
      simp [List.append_assoc]
theorem sized_set {sz : Nat} {els : List AV} {i : Nat} {v : AV} (h : sized sz els = true) (hv : v.cells.length = sz) (hs : scalars v.cells = true) : sized sz (els.set i v) = true := by
  unfold sized at h ⊢
  rw [List.all_eq_true] at h ⊢
  intro e he
  rcases List.mem_or_eq_of_mem_set he with h1 | h1
  · exact h e h1
  · subst h1; simp [hv, hs]
theorem sized_append {sz : Nat} {xs ys : List AV} (h : sized sz xs = true) (k : sized sz ys = true) : sized sz (xs ++ ys) = true := by
  unfold sized at *; rw [List.all_append, h, k]; rfl
theorem sized_sub {sz : Nat} {xs ys : List AV} (h : sized sz xs = true) (hs : ∀ e ∈ ys, e ∈ xs) : sized sz ys = true := by
  unfold sized at *; rw [List.all_eq_true] at h ⊢; exact fun e he => h e (hs e he)
theorem sized_replicate {sz : Nat} {z : AV} (hz : z.cells.length = sz) (hs : scalars z.cells = true) (k : Nat) : sized sz (List.replicate k z) = true := by
  unfold sized; rw [List.all_eq_true]; intro e he; rw [List.eq_of_mem_replicate he]; simp [hz, hs]

/-! ### a new block that is nobody's own -/
theorem Trans.grow (C : Ctx) (o : Go.Obj) (hl : ∀ j l, C.loc j = some l → l.blk < C.w.heap.size) (hown : ¬ C.own C.w.heap.size) : Trans C (C.at_ (C.w.alloc o)) where
  os := rfl
  tape := rfl
  output := rfl
  size := by rw [show (C.at_ (C.w.alloc o)).w = C.w.alloc o from rfl, alloc_size]; omega
  keep b hb ho := ⟨alloc_old _ _ _ hb, ho⟩
  ver _ := Nat.le_refl _
  loc _ _ hl _ := hl
  zero _ _ _ h0 := h0
  row j l hj _ row e hr := ⟨row, (alloc_old _ _ _ (hl j l hj)).trans hr, rfl⟩
  held := rfl
theorem Sim.grow (S : Sim C h) (o : Go.Obj) : Trans C (C.at_ (C.w.alloc o)) ∧ Sim (C.at_ (C.w.alloc o)) h ∧ ¬ C.own C.w.heap.size := by
  have hn : ¬ C.own C.w.heap.size := fun hh => by have := S.bound _ hh; omega
  have Tr := Trans.grow C o (fun j l hj => S.loc_lt hj) hn
  have S' : Sim (C.at_ (C.w.alloc o)) h := by
    refine ⟨S.ver, S.fresh, fun id => ObjOk.stay Tr rfl (fun l hl => alloc_old _ _ _ (S.loc_lt hl)) (fun _ _ => Iff.rfl) (S.obj id), S.apart, fun b hb => ?_, S.held⟩
    rw [show (C.at_ (C.w.alloc o)).w = C.w.alloc o from rfl, alloc_size]
    have := S.bound b hb
    omega
  exact ⟨Tr, S', hn⟩

/-! ### variables -/
theorem fresh_loc (S : Sim C h) : C.loc h.next = none ∧ C.ver h.next = 0 := by
  have h1 := S.fresh h.next (Nat.le_refl _)
  have h2 := S.obj h.next
  rw [h1] at h2
  exact ⟨h2, by rw [S.ver]; unfold verOf; rw [h1]⟩
theorem push_fresh (S : Sim C h) (e : Ent) : ∀ j, (h.push e).next ≤ j → (h.push e).get j = none := by
  intro j hj
  have hj' : h.next + 1 ≤ j := hj
  rw [Heap.get_push, if_neg (by omega)]
  exact S.fresh j (by omega)
/-- A new variable. -/
theorem Sim.newVar (S : Sim C h) (cs : List AV) (row : Array Value) (e : TypeId) (hr : VRs C cs row) (hsc : scalars cs = true) :
    let C' := C.land h.next 0 1 (.cells row e (0, 0))
    Trans C C' ∧ Sim C' (h.push ⟨.var cs, 0, 0⟩) ∧ VR C' (.ptr h.next 0) (.pointer (some ⟨C.w.heap.size, 0, none⟩)) := by
  intro C'
  obtain ⟨h1, h2⟩ := fresh_loc S
  have Tr : Trans C C' := Trans.land h1 (by omega) (fun j l hj => S.loc_lt hj)
  refine ⟨Tr, S.land h.next 0 1 _ h1 (by omega) (fun j hj => by rw [Heap.get_push, if_neg hj]) (by rw [verOf_push, if_pos rfl]) (push_fresh S _) ?_ S.next_not_held, ?_⟩
  · rw [Heap.get_push, if_pos rfl]
    refine ⟨rfl, fun l hl => ?_⟩
    have hl' : (if h.next = h.next then some (⟨C.w.heap.size, 0, 1⟩ : Loc) else C.loc h.next) = some l := hl
    rw [if_pos rfl] at hl'
    cases hl'
    exact ⟨.inr rfl, rfl, row, e, alloc_new _ _, hr.1, hsc, fun i x v hx hv => (hr.2 i x v hx hv).trans Tr⟩
  · refine VR.ptr (C := C') h.next 0 ⟨C.w.heap.size, 0, 1⟩ ?_ rfl ?_
    · show (if h.next = h.next then _ else _) = _; rw [if_pos rfl]
    · show (if h.next = h.next then 0 else _) = 0; rw [if_pos rfl]
/-- A variable that is known already, and comes to lie somewhere. -/
theorem Sim.landVar (S : Sim C h) (id : Nat) (cs : List AV) (st : Nat) (row : Array Value) (e : TypeId) (hg : h.get id = some ⟨.var cs, 0, st⟩) (hl : C.loc id = none) (hr : VRs C cs row) (hsc : scalars cs = true) (hh : ¬ C.held id) :
    let C' := C.land id 0 1 (.cells row e (0, 0))
    Trans C C' ∧ Sim C' h ∧ VR C' (.ptr id 0) (.pointer (some ⟨C.w.heap.size, 0, none⟩)) := by
  intro C'
  have hv : C.ver id = 0 := by rw [S.ver]; unfold verOf; rw [hg]
  have Tr : Trans C C' := Trans.land hl (by omega) (fun j l hj => S.loc_lt hj)
  refine ⟨Tr, S.land id 0 1 _ hl (by omega) (fun j hj => rfl) (by unfold verOf; rw [hg]) S.fresh ?_ hh, ?_⟩
  · rw [hg]
    refine ⟨rfl, fun l hl => ?_⟩
    have hl' : (if id = id then some (⟨C.w.heap.size, 0, 1⟩ : Loc) else C.loc id) = some l := hl
    rw [if_pos rfl] at hl'
    cases hl'
    exact ⟨.inr rfl, rfl, row, e, alloc_new _ _, hr.1, hsc, fun i x v hx hv => (hr.2 i x v hx hv).trans Tr⟩
  · refine VR.ptr (C := C') id 0 ⟨C.w.heap.size, 0, 1⟩ ?_ rfl ?_
    · show (if id = id then _ else _) = _; rw [if_pos rfl]
    · show (if id = id then 0 else _) = 0; rw [if_pos rfl]
theorem run_alloc (F : Facts P T) {ty : TypeId} {ti : TI} (ht : T ty = some ti) (hop : o.op = .alloc ty) (w : World) : ∃ zv : Value, (execOp a.eval o).run P w = .ok (.value (.pointer (some ⟨w.heap.size, 0, none⟩))) (w.alloc (.cells zv.cells ty)) ∧ ∀ C : Ctx, VR C ti.zero zv := by
  obtain ⟨zv, hz, hzv⟩ := F.zero ht
  refine ⟨zv, ?_, hzv⟩
  simp only [execOp, hop]
  simp [Instr.alloc, hz, newVar, newRow]
theorem op_alloc {ty : TypeId} {ti : TI} (F : Facts P T) (hop : o.op = .alloc ty) (ht : T ty = some ti) (S : Sim C h) : OpGood P o a C (h.push ⟨.var ti.zero.cells, 0, 0⟩) (.ptr h.next 0) := by
  obtain ⟨zv, hr, hzv⟩ := run_alloc (a := a) F ht hop C.w
  obtain ⟨Tr, S', hv⟩ := S.newVar ti.zero.cells zv.cells ty (VR.cells (hzv C)) (F.ty ty ti ht).zsc
  exact OpGood.value (C' := C.land h.next 0 1 (.cells zv.cells ty)) hr Tr S' hv
theorem op_box {ty : TypeId} {x : Operand} {x' : AOpd} (hop : o.op = .box ty x) (hx : trOpd x = some x') (S : Sim C h) (hT : TR C t a n) (hsc : scalars (ev t x').cells = true) : OpGood P o a C (h.push ⟨.var (ev t x').cells, 0, 0⟩) (.ptr h.next 0) := by
  obtain ⟨Tr, S', hv⟩ := S.newVar (ev t x').cells (a.eval x).cells ty (VR.cells (ev_ok hT hx)) hsc
  refine OpGood.value (C' := C.land h.next 0 1 (.cells (a.eval x).cells ty)) ?_ Tr S' hv
  simp only [execOp, hop]
  simp [Instr.box, newVar, newRow]; rfl

/-! ### rows -/
/-- A new row of one's own. -/
theorem Sim.newArr (S : Sim C h) (sz : Nat) (els : List AV) (row : Array Value) (e : TypeId) (len cap : Nat) (hs : sized sz els = true) (hr : RowOf C sz els row 0) (hlen : els.length * sz ≤ row.size) (hl : len ≤ cap) (hcap : cap * sz ≤ row.size) :
    let C' := C.land h.next 1 sz (.cells row e (0, 0))
    Trans C C' ∧ Sim C' (h.push ⟨.arr sz els false, 1, 0⟩) ∧ VR C' (.ob h.next 1 sz 0 len) (.slice (some ⟨C.w.heap.size, 0, none⟩) len cap) := by
  intro C'
  obtain ⟨h1, h2⟩ := fresh_loc S
  have Tr : Trans C C' := Trans.land h1 (by omega) (fun j l hj => S.loc_lt hj)
  have hloc : C'.loc h.next = some ⟨C.w.heap.size, 0, sz⟩ := by show (if h.next = h.next then _ else _) = _; rw [if_pos rfl]
  have hver : C'.ver h.next = 1 := by show (if h.next = h.next then 1 else _) = 1; rw [if_pos rfl]
  refine ⟨Tr, S.land h.next 1 sz _ h1 (by omega) (fun j hj => by rw [Heap.get_push, if_neg hj]) (by rw [verOf_push, if_pos rfl]) (push_fresh S _) ?_ S.next_not_held, ?_⟩
  · rw [Heap.get_push, if_pos rfl]
    exact ⟨Nat.le_refl _, _, hloc, rfl, fun _ => .inr rfl, fun hh => (by cases hh), hs, row, e, alloc_new _ _, by simpa using hlen, fun i j e x v hi hj hv => (hr i j e x v hi hj hv).trans Tr⟩
  · refine VR.ob (C := C') h.next 1 sz 0 len _ cap hl (Nat.le_refl _) (by rw [hver]; exact Nat.le_refl _) fun _ => ⟨_, row, e, hloc, rfl, fun _ => by simp, alloc_new _ _, by simpa using hcap⟩
theorem fillEls_ok (hT : TR C t a n) {sz : Nat} : ∀ {ps : List (Nat × Operand)} {qs : List (Nat × AOpd)} {els els' : List AV} {vs : Array Value} {len : Nat}, trEls len ps = some qs → fillEls t sz qs els = some els' → sized sz els = true → VRs C (flat els) vs →
    ∃ vs', Instr.fill (fun i => some (i * sz, sz)) vs (ps.map fun q => (q.1, a.eval q.2)) = some vs' ∧ VRs C (flat els') vs' ∧ sized sz els' = true ∧ els'.length = els.length
  | [], qs, els, els', vs, len, hp, hf, hs, hv => by
    simp only [trEls, Option.some.injEq] at hp
    subst hp
    simp only [fillEls, Option.some.injEq] at hf
    subst hf
    exact ⟨vs, by simp [Instr.fill], hv, hs, rfl⟩
  | (i, x) :: ps, qs, els, els', vs, len, hp, hf, hs, hv => by
    simp only [trEls, Option.bind_eq_some_iff, Option.some.injEq] at hp
    obtain ⟨y, hy, ys, hys, rfl⟩ := hp
    simp only [fillEls] at hf
    cases hb : (Nat.beq (ev t y).cells.length sz && scalars (ev t y).cells && Nat.blt i els.length) with
    | false => rw [hb] at hf; cases hf
    | true =>
      rw [hb] at hf
      simp only [cond_true] at hf
      simp only [Bool.and_eq_true] at hb
      have hb1 := Nat.eq_of_beq_eq_true hb.1.1
      have hb2 : i < els.length := Nat.le_of_ble_eq_true hb.2
      have hxv := VR.cells (ev_ok hT hy)
      have hfl := flat_set hs hb2 hb1
      have hle : i * sz + (ev t y).cells.length ≤ (flat els).length := by
        rw [flat_length hs, hb1, ← Nat.succ_mul]; exact Nat.mul_le_mul_right _ hb2
      have hsp := hv.splice hxv hle
      rw [← hfl] at hsp
      obtain ⟨vs', h1, h2, h3, h4⟩ := fillEls_ok hT hys hf (sized_set hs hb1 hb.1.2) hsp
      refine ⟨vs', ?_, h2, h3, by rw [h4]; simp⟩
      simp only [List.map_cons, Instr.fill]
      rw [if_neg]
      · exact h1
      · have e1 := hxv.1
        have e2 := hv.1
        simp only [ne_eq, Bool.or_eq_true, decide_eq_true_eq]
        omega
/-- Zero cells, as so many elements. -/
theorem zeros_ok {z : AV} {zv : Value} (hv : VR C z zv) {sz : Nat} (hz : z.cells.length = sz) (hsc : scalars z.cells = true) (k : Nat) : VRs C (flat (List.replicate k z)) ((Array.range (k * sz)).map fun i => zv.cells[i % zv.cells.size]!) := by
  have hc := VR.cells hv
  have hsd := sized_replicate hz hsc k
  refine ⟨by rw [flat_length hsd]; simp, fun i x v hx hv' => ?_⟩
  have hi : i < k * sz := by
    have := (List.getElem?_eq_some_iff.1 hx).1
    rw [flat_length hsd] at this
    simpa using this
  have h0 : 0 < sz := by
    rcases Nat.eq_zero_or_pos sz with h1 | h1
    · rw [h1] at hi; simp at hi
    · exact h1
  have hm : i % sz < sz := Nat.mod_lt _ h0
  have hd : i / sz < k := (Nat.div_lt_iff_lt_mul h0).2 hi
  have e1 : (flat (List.replicate k z))[i / sz * sz + i % sz]? = z.cells[i % sz]? := flat_get hsd (by rw [List.getElem?_replicate, if_pos hd]) hm
  rw [Nat.div_add_mod'] at e1
  rw [e1] at hx
  have e2 : zv.cells.size = sz := by rw [hc.1, hz]
  have e3 : zv.cells[i % sz]? = some v := by
    rw [Array.getElem?_map, Array.getElem?_range, if_pos hi] at hv'
    simp only [Option.map_some, Option.some.injEq] at hv'
    rw [← hv', e2, getElem!_pos zv.cells (i % sz) (by omega)]
    exact Array.getElem?_eq_getElem (by omega)
  exact hc.2 _ x v hx e3
theorem run_buildSlice (F : Facts P T) {ty e : TypeId} {ti te : TI} (ht : T ty = some ti) (hk : ti.kind = .slice e) (hte : T e = some te) {len : Nat} (hlen : len * te.size ≤ 16777216) {zv : Value} (hz : ∀ w, (zeroValue e).run P w = .ok zv w) (hzs : zv.cells.size = te.size) {parts : Array (Nat × Value)} {vs : Array Value}
    (hf : Instr.fill (fun i => some (i * te.size, te.size)) ((Array.range (len * te.size)).map fun i => zv.cells[i % zv.cells.size]!) parts.toList = some vs) (w : World) :
    (Instr.buildSlice ty len parts).run P w = .ok (.slice (some ⟨w.heap.size, 0, none⟩) len len) (w.alloc (.cells vs e)) := by
  have h1 : ¬ (len * te.size > 2 ^ 24) := by omega
  by_cases h0 : len * te.size = 0
  · simp only [Instr.buildSlice, Sem.run_bind, run_underlying (F.slice ht hk), Result.andThen_ok, F.size hte, Sem.run_ite, if_neg h1, if_pos h0, Sem.run_pure]
    have e0 : ((Array.range (len * te.size)).map fun i => (#[] : Array Value)[i % (#[] : Array Value).size]!) = (Array.range (len * te.size)).map fun i => zv.cells[i % zv.cells.size]! := by
      rw [h0]; simp [Array.range_zero']
    rw [e0, hf]
    simp [newRow]
  · simp only [Instr.buildSlice, Sem.run_bind, run_underlying (F.slice ht hk), Result.andThen_ok, F.size hte, Sem.run_ite, if_neg h1, if_neg h0, hz, Sem.run_pure]
    rw [hf]
    simp [newRow]
theorem op_bsl {ty e : TypeId} {ti te : TI} {len : Nat} {parts : Array (Nat × Operand)} {ps : List (Nat × AOpd)} (F : Facts P T) (hop : o.op = .buildSlice ty len parts) (ht : T ty = some ti) (hk : ti.kind = .slice e) (hte : T e = some te) (hlen : len * te.size ≤ 16777216) (hps : trEls len parts.toList = some ps) (S : Sim C h) (hT : TR C t a n)
    {els : List AV} (hf : fillEls t te.size ps (List.replicate len te.zero) = some els) :
    (∀ v h', v = .sl els .full → h' = h → OpGood P o a C h' v) ∧ OpGood P o a C (h.push ⟨.arr te.size els false, 1, 0⟩) (.ob h.next 1 te.size 0 len) := by
  obtain ⟨zv, hz, hzv⟩ := F.zero hte
  have hTF := F.ty e te hte
  have hzs := VR.cells (hzv C)
  obtain ⟨vs, h1, h2, h3, h4⟩ := fillEls_ok hT hps hf (sized_replicate hTF.zlen hTF.zsc len) (zeros_ok (hzv C) hTF.zlen hTF.zsc len)
  have hl : els.length = len := by rw [h4]; simp
  have e2 : (parts.map (fun (q : Nat × Operand) => (q.1, a.eval q.2))).toList = parts.toList.map fun q => (q.1, a.eval q.2) := by simp
  have hrun : (execOp a.eval o).run P C.w = .ok (.value (.slice (some ⟨C.w.heap.size, 0, none⟩) len len)) (C.w.alloc (.cells vs e)) := by
    have := run_buildSlice (P := P) F ht hk hte hlen hz (by rw [hzs.1, hTF.zlen]) (parts := parts.map (fun (q : Nat × Operand) => (q.1, a.eval q.2))) (vs := vs) (by rw [e2]; exact h1) C.w
    simp only [execOp, hop, Sem.run_bind, this, Result.andThen_ok]
    rfl
  have hsz : vs.size = len * te.size := by rw [h2.1, flat_length h3, hl]
  have hrow := RowOf.ofFlat h3 h2
  constructor
  · intro v h' ev eh
    rw [ev, eh]
    obtain ⟨Tr, S', hn⟩ := S.grow (.cells vs e (0, 0))
    refine OpGood.value (C' := C.at_ (C.w.alloc (.cells vs e (0, 0)))) hrun Tr S' ?_
    have hcell : ∀ k, (C.w.alloc (.cells vs e (0, 0))).cell? ⟨C.w.heap.size, k, none⟩ = vs[k]? := fun k => by rw [cell?_at, alloc_new]
    have := VR.sl (C := C.at_ (C.w.alloc (.cells vs e (0, 0)))) els .full (some ⟨C.w.heap.size, 0, none⟩) len C.w.heap.size 0 te.size (by omega) ⟨by simp, hl.symm⟩
      (fun _ => ⟨rfl, hn, by rw [show (C.at_ (C.w.alloc (.cells vs e (0, 0)))).w = C.w.alloc (.cells vs e (0, 0)) from rfl, alloc_size]; omega⟩) h3 (fun i el j x hi hj => ?_) (fun i el j x v hi hj hv => ?_)
    · rwa [hl] at this
    · show ((C.w.alloc (.cells vs e (0, 0))).cell? _).isSome = true
      rw [hcell]
      have hjl : j < te.size := by rw [← (sized_at h3 hi).1]; exact (List.getElem?_eq_some_iff.1 hj).1
      have hil : i < len := by rw [← hl]; exact (List.getElem?_eq_some_iff.1 hi).1
      have : i * te.size + te.size ≤ len * te.size := by rw [← Nat.succ_mul]; exact Nat.mul_le_mul_right _ hil
      rw [Array.getElem?_eq_getElem (by omega)]; rfl
    · have hv' : (C.w.alloc (.cells vs e (0, 0))).cell? ⟨C.w.heap.size, 0 + i * te.size + j, none⟩ = some v := hv
      rw [hcell] at hv'
      exact (hrow i j el x v hi hj hv').trans Tr
  · obtain ⟨Tr, S', hv⟩ := S.newArr te.size els vs e len len h3 hrow (by rw [hl, hsz]; exact Nat.le_refl _) (Nat.le_refl _) (by rw [hsz]; exact Nat.le_refl _)
    exact OpGood.value (C' := C.land h.next 1 te.size (.cells vs e (0, 0))) hrun Tr S' hv
theorem op_mksl {ty e : TypeId} {ti te : TI} {l c : Operand} {l' c' : AOpd} (F : Facts P T) (hop : o.op = .makeSlice ty l c) (ht : T ty = some ti) (hk : ti.kind = .slice e) (hte : T e = some te) (hl : trOpd l = some l') (hc : trOpd c = some c') (S : Sim C h) (hT : TR C t a n) {m : Nat} (hm : natOf (ev t l') = some m) (hm' : natOf (ev t c') = some m) (hroom : m * te.bytes ≤ room) :
    OpGood P o a C (h.push ⟨.arr te.size (List.replicate m te.zero) false, 1, 0⟩) (.ob h.next 1 te.size 0 m) := by
  obtain ⟨k, hlv, _⟩ := natOf_ok hl hT hm
  obtain ⟨j, hcv, _⟩ := natOf_ok hc hT hm'
  obtain ⟨zv, hz, hzv⟩ := F.zero hte
  have hTF := F.ty e te hte
  obtain ⟨i, zv', hi, hsz, hby, hzz, _⟩ := hTF.info
  have hz' : zv' = zv := by
    have := hz C.w
    simp [zeroValue, typeInfo, hi, hzz] at this
    exact this
  subst hz'
  have hml : m ≤ 140737488355328 := Nat.le_trans (Nat.le_mul_of_pos_right _ hTF.pos) hroom
  have hzs := VR.cells (hzv C)
  have hzc : zv'.cells.size = te.size := by rw [hzs.1, hTF.zlen]
  have hvs := zeros_ok (hzv C) hTF.zlen hTF.zsc m
  have hsd := sized_replicate hTF.zlen hTF.zsc m
  have hrun : (execOp a.eval o).run P C.w = .ok (.value (.slice (some ⟨C.w.heap.size, 0, none⟩) m m)) (C.w.alloc (.cells ((Array.range (m * te.size)).map fun i => zv'.cells[i % zv'.cells.size]!) e)) := by
    have hb : ((i.bytes : Nat) : Int) * ((m : Nat) : Int) ≤ 281474976710656 := by
      have : ((i.bytes : Nat) : Int) * (m : Int) = ((m * te.bytes : Nat) : Int) := by rw [Int.natCast_mul, hby, Int.mul_comm]
      rw [this]; unfold room at hroom; omega
    have := run_make (P := P) C.w ty e i zv' (F.slice ht hk) hi hzz k j m m (by omega) (Int.le_refl _) hb (by omega)
    simp only [Int.toNat_natCast, hsz] at this
    simp only [execOp, hop, hlv, hcv, Sem.run_bind, this, Result.andThen_ok]
    rfl
  obtain ⟨Tr, S', hv⟩ := S.newArr te.size (List.replicate m te.zero) _ e m m hsd (RowOf.ofFlat hsd hvs) (by rw [hvs.1, flat_length hsd]; exact Nat.le_refl _) (Nat.le_refl _) (by simp)
  exact OpGood.value (C' := C.land h.next 1 te.size _) hrun Tr S' hv
theorem op_mkmap {ty : TypeId} (hop : o.op = .makeMap ty none) (S : Sim C h) : OpGood P o a C (h.push ⟨.map [], 0, 0⟩) (.mp h.next) := by
  obtain ⟨h1, h2⟩ := fresh_loc S
  have Tr : Trans C (C.land h.next 0 1 (.map #[] 0)) := Trans.land h1 (by omega) (fun j l hj => S.loc_lt hj)
  have hloc : (C.land h.next 0 1 (.map #[] 0)).loc h.next = some ⟨C.w.heap.size, 0, 1⟩ := by show (if h.next = h.next then _ else _) = _; rw [if_pos rfl]
  refine OpGood.value (C' := C.land h.next 0 1 (.map #[] 0)) (u := .map (some C.w.heap.size)) ?_ Tr (S.land h.next 0 1 _ h1 (by omega) (fun j hj => by rw [Heap.get_push, if_neg hj]) (by rw [verOf_push, if_pos rfl]) (push_fresh S _) ?_ S.next_not_held) ?_
  · simp only [execOp, hop]
    simp [Instr.makeMap]; rfl
  · rw [Heap.get_push, if_pos rfl]
    exact ⟨rfl, _, hloc, .inr rfl, rfl, #[], 0, alloc_new _ _, rfl, fun i p m hi => by simp at hi⟩
  · exact VR.mp (C := C.land h.next 0 1 (.map #[] 0)) h.next _ hloc (by show (if h.next = h.next then 0 else _) = 0; rw [if_pos rfl])
end
end Go.AM
