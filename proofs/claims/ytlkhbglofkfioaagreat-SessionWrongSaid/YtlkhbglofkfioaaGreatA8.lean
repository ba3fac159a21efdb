/- Reading and writing memory. -/
import Derived.Test.YtlkhbglofkfioaaGreatA7
import Derived.Deep.AppendSrc
import Derived.Lib.AppendZeros
set_option linter.unusedVariables false
set_option linter.unusedSimpArgs false
namespace Go.AM
open Go
section
variable {P : Program} {T : Types} {o : Oper} {a : Act} {C : Ctx} {h : Heap} {t : Tmps} {n : Nat}

theorem VR.one {x : AV} {v : Value} (h : VR C x v) (hs : x.scalar = true) : v.oneCell' = true := by cases h <;> first | rfl | (simp [AV.scalar] at hs)
theorem VRs.ones {cs : List AV} {vs : Array Value} (h : VRs C cs vs) (hs : scalars cs = true) : ∀ u ∈ vs.toList, u.oneCell' = true := by
  intro u hu
  obtain ⟨i, hi, hu'⟩ := List.getElem_of_mem hu
  have hi' : i < vs.size := by simpa using hi
  have hl : i < cs.length := by rw [← h.1]; exact hi'
  refine (h.2 i cs[i] u (List.getElem?_eq_getElem hl) ?_).one (List.all_eq_true.1 hs _ (List.getElem_mem hl))
  rw [Array.getElem?_eq_getElem hi', ← hu']
  simp
/-- Cells laid over a row. -/
def over (row : Array Value) (p : Nat) (us : List Value) : Array Value := (row.toList.take p ++ us ++ row.toList.drop (p + us.length)).toArray
theorem over_size {row : Array Value} {p : Nat} {us : List Value} (h : p + us.length ≤ row.size) : (over row p us).size = row.size := by simp [over]; omega
theorem over_get {row : Array Value} {p : Nat} {us : List Value} (h : p + us.length ≤ row.size) (k : Nat) : (over row p us)[k]? = if p ≤ k ∧ k < p + us.length then us[k - p]? else row[k]? := by
  unfold over
  rw [List.getElem?_toArray, List.append_assoc, List.getElem?_append, List.length_take, List.getElem?_append, List.getElem?_drop]
  have hm : min p row.toList.length = p := by simp; omega
  rw [hm]
  by_cases h1 : k < p
  · rw [if_pos h1, if_neg (by omega), List.getElem?_take, if_pos h1]; simp
  · rw [if_neg h1]
    by_cases h2 : k < p + us.length
    · rw [if_pos (by omega), if_pos (by omega)]
    · rw [if_neg (by omega), if_neg (by omega)]
      rw [show p + us.length + (k - p - us.length) = k by omega]
      simp

/-! ### load -/
/-- Cells at an address, and a part of them read. -/
theorem loadVar_ok (F : Facts P T) {ty : TypeId} {ti : TI} (ht : T ty = some ti) {b o : Nat} {cs : List AV} (hc : ∀ (j : Nat) (x : AV), cs[j]? = some x → ∃ v, C.w.cell? ⟨b, o + j, none⟩ = some v ∧ VR C x v) {off : Nat} {v : AV} (hs : slots cs ti.agg off ti.size = some v) :
    ∃ u, (loadVar ty ⟨b, o + off, none⟩).run P C.w = .ok u C.w ∧ VR C v u := by
  -- the cells as an array
  let vs : Array Value := ((List.range cs.length).map fun j => (C.w.cell? ⟨b, o + j, none⟩).getD Go.undef).toArray
  have hvs : VRs C cs vs := by
    refine ⟨by simp [vs], fun i x w hx hw => ?_⟩
    obtain ⟨v', h1, h2⟩ := hc i x hx
    have hi : i < cs.length := (List.getElem?_eq_some_iff.1 hx).1
    simp only [vs, List.getElem?_toArray, List.getElem?_map, List.getElem?_range hi, Option.map_some, Option.some.injEq] at hw
    rw [h1] at hw
    simp only [Option.getD_some] at hw
    rw [← hw]; exact h2
  obtain ⟨h1, h2, h3, h4⟩ := slots_ok hvs.1 hvs.2 hs
  have hcell : ∀ j, j < cs.length → C.w.cell? ⟨b, o + j, none⟩ = some ((C.w.cell? ⟨b, o + j, none⟩).getD Go.undef) := by
    intro j hj
    obtain ⟨v', h1, _⟩ := hc j cs[j] (List.getElem?_eq_getElem hj)
    rw [h1]; rfl
  cases hagg : ti.agg with
  | true =>
    refine ⟨.agg (vs.extract off (off + ti.size)), ?_, h3 hagg⟩
    have hl := run_loadCells (P := P) C.w ⟨b, o + off, none⟩ ti.size (fun j => (C.w.cell? ⟨b, o + (off + j), none⟩).getD Go.undef) (fun j hj => by
      rw [add_none, Nat.add_assoc]; exact hcell (off + j) (by omega))
    simp only [loadVar, Sem.run_bind, F.agg ht, Result.andThen_ok, hagg, if_true, F.size ht, hl, Sem.run_pure]
    congr 2
    apply Array.ext_getElem?
    intro i
    rw [Array.getElem?_extract]
    by_cases hi : i < ti.size
    · rw [if_pos (by simp [vs]; omega)]
      simp only [vs, List.getElem?_toArray, List.getElem?_map]
      rw [List.getElem?_range hi, List.getElem?_range (show off + i < cs.length by omega)]
      rfl
    · rw [if_neg (by simp [vs]; omega)]
      simp only [List.getElem?_toArray, List.getElem?_map]
      rw [List.getElem?_eq_none (by simp; omega)]; rfl
  | false =>
    obtain ⟨h5, u, h6, h7⟩ := h4 hagg
    refine ⟨u, ?_, h7⟩
    have hlt : off < cs.length := by omega
    have hu : C.w.cell? ⟨b, o + off, none⟩ = some u := by
      rw [hcell off hlt]
      simp only [vs, List.getElem?_toArray, List.getElem?_map, List.getElem?_range hlt, Option.map_some] at h6
      exact h6
    simp only [loadVar, Sem.run_bind, F.agg ht, Result.andThen_ok, hagg, Bool.false_eq_true, if_false, run_load, hu]
theorem arrAt_get {id ver sz st : Nat} {els : List AV} {ro : Bool} (hg : arrAt h id ver = some (sz, els, ro, st)) : h.get id = some ⟨.arr sz els ro, ver, st⟩ := by
  unfold arrAt at hg
  split at hg
  · rename_i sz' els' ro' v' st' he
    cases hb : Nat.beq v' ver with
    | false => rw [hb] at hg; cases hg
    | true =>
      rw [hb] at hg
      simp only [cond_true, Option.some.injEq, Prod.mk.injEq] at hg
      obtain ⟨rfl, rfl, rfl, rfl⟩ := hg
      rw [he, Nat.eq_of_beq_eq_true hb]
  · cases hg
theorem Sim.arrAt (S : Sim C h) {id ver sz st : Nat} {els : List AV} {ro : Bool} (hg : AM.arrAt h id ver = some (sz, els, ro, st)) :
    C.ver id = ver ∧ 1 ≤ ver ∧ ∃ l row e, C.loc id = some l ∧ l.sz = sz ∧ (ro = false → C.own l.blk) ∧ (ro = true → ¬ C.own l.blk) ∧ sized sz els = true ∧ C.w.heap[l.blk]? = some (.cells row e (0, 0)) ∧ l.base + els.length * sz ≤ row.size ∧ RowOf C sz els row l.base := by
  have hget := arrAt_get hg
  have h1 := S.obj id
  rw [hget] at h1
  obtain ⟨h2, l, h3, h4, h5, h6, h7, row, e, h8, h9, h10⟩ := h1
  exact ⟨by rw [S.ver]; unfold verOf; rw [hget], h2, l, row, e, h3, h4, h5, h6, h7, h8, h9, fun i j e x v hi hj hv => h10 i j e x v hi hj hv⟩
/-- An element's cells, where the row lies. -/
theorem row_cells {sz b base : Nat} {els : List AV} {row : Array Value} {e : TypeId} {fr : Nat × Nat} (hs : sized sz els = true) (hb : C.w.heap[b]? = some (.cells row e fr)) (hl : base + els.length * sz ≤ row.size) (hr : RowOf C sz els row base) {i : Nat} {el : AV} (hi : els[i]? = some el) :
    ∀ (j : Nat) (x : AV), el.cells[j]? = some x → ∃ v, C.w.cell? ⟨b, base + i * sz + j, none⟩ = some v ∧ VR C x v := by
  intro j x hj
  have hjl : j < sz := by rw [← (sized_at hs hi).1]; exact (List.getElem?_eq_some_iff.1 hj).1
  have hil : i < els.length := (List.getElem?_eq_some_iff.1 hi).1
  have h1 : i * sz + sz ≤ els.length * sz := by rw [← Nat.succ_mul]; exact Nat.mul_le_mul_right _ hil
  have hlt : base + i * sz + j < row.size := by omega
  refine ⟨row[base + i * sz + j], ?_, hr i j el x _ hi hj (Array.getElem?_eq_getElem hlt)⟩
  rw [cell?_at, hb]
  exact Array.getElem?_eq_getElem hlt
theorem load_ok (F : Facts P T) {ty : TypeId} {ti : TI} (ht : T ty = some ti) (S : Sim C h) {x : AV} {u : Value} (hx : VR C x u) {v : AV} (hv : loadAt h ti.agg ti.size x = some v) : ∃ w, (Instr.loadAt ty u).run P C.w = .ok w C.w ∧ VR C v w := by
  have fin : ∀ {b o off : Nat} {cs : List AV}, u = .pointer (some ⟨b, o + off, none⟩) → (∀ (j : Nat) (x : AV), cs[j]? = some x → ∃ v, C.w.cell? ⟨b, o + j, none⟩ = some v ∧ VR C x v) → slots cs ti.agg off ti.size = some v → ∃ w, (Instr.loadAt ty u).run P C.w = .ok w C.w ∧ VR C v w := by
    intro b o off cs hu hc hs
    obtain ⟨w, h1, h2⟩ := loadVar_ok F ht hc hs
    refine ⟨w, ?_, h2⟩
    rw [hu]
    simp only [Instr.loadAt, Instr.sureAddr, Sem.run_bind, Sem.run_pure, Result.andThen_ok, h1]
  unfold loadAt at hv
  split at hv
  · rename_i id off
    obtain ⟨l, hu, hl, hb, h0⟩ := VR.ptr_inv hx
    split at hv
    · rename_i cs v0 st hg
      have ho := S.obj id
      rw [hg] at ho
      obtain ⟨_, ho⟩ := ho
      obtain ⟨_, _, row, e, hrow, hsz, _, hvr⟩ := ho l hl
      refine fin (b := l.blk) (o := 0) (off := off) (cs := cs) (by rw [hu]; simp) (fun j x hj => ?_) hv
      have hjl : j < row.size := by rw [hsz]; exact (List.getElem?_eq_some_iff.1 hj).1
      refine ⟨row[j], ?_, hvr j x _ hj (Array.getElem?_eq_getElem hjl)⟩
      rw [cell?_at, hrow, Nat.zero_add]
      exact Array.getElem?_eq_getElem hjl
    · cases hv
  · rename_i id ver i off
    simp only [Option.bind_eq_some_iff] at hv
    obtain ⟨⟨sz, els, ro, st⟩, hg, e, he, hs⟩ := hv
    obtain ⟨hver, h1, l, row, et, hl, hlz, _, _, hsd, hrow, hlen, hr⟩ := S.arrAt hg
    obtain ⟨ad, hu, _, _, hh⟩ := VR.eptr_inv hx
    obtain ⟨l', hl', ha⟩ := hh hver
    rw [hl] at hl'
    cases hl'
    exact fin (b := l.blk) (o := l.base + i * sz) (off := off) (cs := e.cells) (by rw [hu, ha, hlz]) (row_cells hsd hrow hlen hr he) hs
  · rename_i e off
    obtain ⟨b, o', hu, hb, hbs, hsc, hc, hr⟩ := VR.iptr_inv hx
    refine fin (b := b) (o := o') (off := off) (cs := e.cells) hu (fun j x hj => ?_) hv
    obtain ⟨w, hw⟩ := Option.isSome_iff_exists.1 (hc j x hj)
    exact ⟨w, hw, hr j x w hj hw⟩
  · cases hv
theorem op_load {ty : TypeId} {ti : TI} {x : Operand} {x' : AOpd} (F : Facts P T) (hop : o.op = .load ty x) (ht : T ty = some ti) (hx : trOpd x = some x') (S : Sim C h) (hT : TR C t a n) {v : AV} (hv : loadAt h ti.agg ti.size (ev t x') = some v) : OpGood P o a C h v := by
  obtain ⟨w, h1, h2⟩ := load_ok (P := P) F ht S (ev_ok hT hx) hv
  refine OpGood.same (u := w) ?_ S h2
  simp only [execOp, hop, Sem.run_bind, h1, Result.andThen_ok]
  rfl

/-! ### store -/
theorem respell_cells {e : AV} {cs : List AV} (hl : cs.length = e.cells.length) (hs : scalars cs = true) : (respell e cs).cells = cs := by
  unfold respell
  split
  · rfl
  · rename_i hne
    have he : e.cells.length = 1 := by cases e <;> first | rfl | exact absurd rfl (hne _)
    rw [he] at hl
    match cs, hl with
    | [v], _ =>
      have : v.scalar = true := by simpa [scalars] using hs
      cases v <;> first | rfl | simp [AV.scalar] at this
theorem scalars_splice {cs xs : List AV} {off : Nat} (h : scalars cs = true) (k : scalars xs = true) : scalars (splice cs off xs) = true := by
  unfold scalars splice at *
  rw [List.all_eq_true] at *
  intro v hv
  simp only [List.mem_append] at hv
  rcases hv with (hv | hv) | hv
  · exact h v (List.mem_of_mem_take hv)
  · exact k v hv
  · exact h v (List.mem_of_mem_drop hv)
theorem run_storeVar (F : Facts P T) {ty : TypeId} {ti : TI} (ht : T ty = some ti) {g p : Nat} {row : Array Value} {e : TypeId} {w : World} (hg : w.heap[g]? = some (.cells row e (0, 0))) {u : Value} (hu : u.cells.size = ti.size) (h1 : ∀ v ∈ u.cells.toList, v.oneCell' = true) (hl : p + ti.size ≤ row.size) :
    (Instr.storeAt ty (.pointer (some ⟨g, p, none⟩)) u).run P w = .ok () (w.setRow g (over row p u.cells.toList)) := by
  have hst := run_storeCells_at P g p e u.cells.toList 0 row w hg (by simp [hu]; omega) h1
  simp only [Nat.add_zero] at hst
  simp only [Instr.storeAt, Instr.sureAddr, storeVar, Sem.run_bind, Sem.run_pure, Result.andThen_ok, F.size ht, Sem.run_ite, hu, ne_eq, not_true_eq_false, if_false]
  simp [hst, over]
/-- An array of one's own, its row written. -/
theorem Sim.setArr (S : Sim C h) {id ver sz st : Nat} {els els' : List AV} (hg : AM.arrAt h id ver = some (sz, els, false, st)) {l : Loc} {row row' : Array Value} {e : TypeId} (hl : C.loc id = some l) (hlz : l.sz = sz) (ho : C.own l.blk)
    (hrow : C.w.heap[l.blk]? = some (.cells row e (0, 0))) (hsz : row'.size = row.size) (hs : sized sz els' = true) (hlen : l.base + els'.length * sz ≤ row.size) (hr : RowOf C sz els' row' l.base) (st' : Nat) :
    Trans C (C.at_ (C.w.setRow l.blk row')) ∧ Sim (C.at_ (C.w.setRow l.blk row')) (h.put id ⟨.arr sz els' false, ver, st'⟩) := by
  have hget := arrAt_get hg
  have W := Wrote.setRow hrow row' hsz
  have Tr := Trans.wrote W ho
  refine ⟨Tr, S.wrote id l W hl ho (fun j hj => by rw [Heap.get_put, if_neg hj]) (by rw [verOf_put, if_pos rfl]; unfold verOf; rw [hget]) (fun j hj => ?_) ?_⟩
  · rw [Heap.get_put, if_neg (fun e => by subst e; have := S.fresh _ hj; rw [hget] at this; cases this)]
    exact S.fresh j hj
  · rw [Heap.get_put, if_pos rfl]
    obtain ⟨_, h1, _⟩ := S.arrAt hg
    exact ⟨h1, l, hl, hlz, fun _ => ho, fun hh => (by cases hh), hs, row', e, setRow_heap C.w l.blk row row' e (0, 0) hrow, by rw [hsz]; exact hlen, fun i j e x v hi hj hv => (hr i j e x v hi hj hv).trans Tr⟩
theorem op_store {ty : TypeId} {ti : TI} {p x : Operand} {p' x' : AOpd} (F : Facts P T) (hop : o.op = .store ty p x) (ht : T ty = some ti) (hp : trOpd p = some p') (hx : trOpd x = some x') (S : Sim C h) (hT : TR C t a n) {h' : Heap} (hv : storeAt h ti.size (ev t x') (ev t p') = some h') : OpGood P o a C h' undef := by
  have hpv := ev_ok hT hp
  have hxv := VR.cells (ev_ok hT hx)
  unfold storeAt at hv
  split at hv
  · rename_i id off he
    rw [he] at hpv
    obtain ⟨l, hu, hl, hb, h0⟩ := VR.ptr_inv hpv
    split at hv
    · rename_i cs v0 st hg
      cases hbb : (Nat.beq (ev t x').cells.length ti.size && Nat.ble (off + ti.size) cs.length && scalars (ev t x').cells) with
      | false => rw [hbb] at hv; cases hv
      | true =>
        rw [hbb] at hv
        simp only [cond_true, Option.some.injEq] at hv
        subst hv
        simp only [Bool.and_eq_true] at hbb
        obtain ⟨⟨hb1, hb2⟩, hsc⟩ := hbb
        have hb1 := Nat.eq_of_beq_eq_true hb1
        have hb2 := Nat.le_of_ble_eq_true hb2
        have ho := S.obj id
        rw [hg] at ho
        obtain ⟨hv0, ho⟩ := ho
        obtain ⟨hown, hbase, row, e, hrow, hsz, hscs, hvr⟩ := ho l hl
        have husz : (a.eval x).cells.size = ti.size := by rw [hxv.1, hb1]
        have hlen : off + (a.eval x).cells.toList.length ≤ row.size := by simp [husz, hsz]; omega
        have hrun := run_storeVar (P := P) F ht hrow (u := a.eval x) husz (hxv.ones hsc) (p := off) (by rw [hsz]; exact hb2)
        have W := Wrote.setRow hrow (over row off (a.eval x).cells.toList) (over_size hlen)
        have Tr := Trans.wrote W hown
        refine OpGood.skip (C' := C.at_ (C.w.setRow l.blk (over row off (a.eval x).cells.toList))) ?_ Tr (S.wrote id l W hl hown (fun j hj => by rw [Heap.get_put, if_neg hj]) (by rw [verOf_put, if_pos rfl]; unfold verOf; rw [hg]) (fun j hj => by rw [Heap.get_put]; rw [if_neg (fun e => by subst e; have := S.fresh _ hj; rw [hg] at this; cases this)]; exact S.fresh j hj) ?_)
        · simp only [execOp, hop, hu, Sem.run_bind, hrun, Result.andThen_ok]
          rfl
        · rw [Heap.get_put, if_pos rfl]
          refine ⟨hv0, fun l' hl' => ?_⟩
          have hl2 : C.loc id = some l' := hl'
          rw [hl] at hl2
          cases hl2
          refine ⟨hown, hbase, _, e, setRow_heap C.w l.blk row _ e (0, 0) hrow, by rw [over_size hlen, splice_length (by omega), hsz], scalars_splice hscs hsc, fun i y w hy hw => ?_⟩
          rw [splice_get (by omega)] at hy
          rw [over_get hlen] at hw
          have hl3 : (a.eval x).cells.toList.length = (ev t x').cells.length := by simp [hxv.1]
          rw [hl3] at hw
          by_cases hi : off ≤ i ∧ i < off + (ev t x').cells.length
          · rw [if_pos hi] at hy hw
            exact (hxv.2 _ y w hy (by simpa using hw)).trans Tr
          · rw [if_neg hi] at hy hw
            exact (hvr i y w hy hw).trans Tr
    · cases hv
  · rename_i id ver i off he
    rw [he] at hpv
    simp only [Option.bind_eq_some_iff] at hv
    obtain ⟨⟨sz, els, ro, st⟩, hg, e, hel, hv⟩ := hv
    cases hbb : (!ro && Nat.beq (ev t x').cells.length ti.size && Nat.ble (off + ti.size) e.cells.length && scalars (ev t x').cells) with
    | false => simp only [hbb] at hv; cases hv
    | true =>
      simp only [hbb, cond_true, Option.some.injEq] at hv
      subst hv
      simp only [Bool.and_eq_true, Bool.not_eq_true'] at hbb
      obtain ⟨⟨⟨hro, hb1⟩, hb2⟩, hsc⟩ := hbb
      subst hro
      have hb1 := Nat.eq_of_beq_eq_true hb1
      have hb2 := Nat.le_of_ble_eq_true hb2
      obtain ⟨hver, h1, l, row, et, hl, hlz, how, _, hsd, hrow, hlen, hr⟩ := S.arrAt hg
      have hown := how rfl
      obtain ⟨ad, hu, _, _, hh⟩ := VR.eptr_inv hpv
      obtain ⟨l', hl', ha⟩ := hh hver
      rw [hl] at hl'
      cases hl'
      have hel2 := sized_at hsd hel
      have hil : i < els.length := (List.getElem?_eq_some_iff.1 hel).1
      have hmul : i * sz + sz ≤ els.length * sz := by rw [← Nat.succ_mul]; exact Nat.mul_le_mul_right _ hil
      have husz : (a.eval x).cells.size = ti.size := by rw [hxv.1, hb1]
      have hle : l.base + i * sz + off + (a.eval x).cells.toList.length ≤ row.size := by simp [husz]; omega
      have hsp : (splice e.cells off (ev t x').cells).length = e.cells.length := splice_length (by omega)
      have hscs : scalars (splice e.cells off (ev t x').cells) = true := scalars_splice hel2.2 hsc
      have hrs := respell_cells hsp hscs
      have hrun := run_storeVar (P := P) F ht hrow (u := a.eval x) husz (hxv.ones hsc) (p := l.base + i * sz + off) (by omega)
      have hset : sized sz (els.set i (respell e (splice e.cells off (ev t x').cells))) = true := sized_set hsd (by rw [hrs, hsp, hel2.1]) (by rw [hrs]; exact hscs)
      have hl3 : (a.eval x).cells.toList.length = (ev t x').cells.length := by simp [hxv.1]
      obtain ⟨Tr, S'⟩ := S.setArr hg hl hlz hown hrow (over_size hle) hset (by simpa using hlen) (fun i' j e1 y w hi hj hw => by
        rw [over_get hle, hl3] at hw
        by_cases hii : i' = i
        · subst hii
          rw [List.getElem?_set_self hil] at hi
          cases hi
          rw [hrs, splice_get (by omega)] at hj
          by_cases hc : off ≤ j ∧ j < off + (ev t x').cells.length
          · rw [if_pos hc] at hj
            rw [if_pos (by omega), show l.base + i' * sz + j - (l.base + i' * sz + off) = j - off by omega] at hw
            exact hxv.2 _ y w hj (by simpa using hw)
          · rw [if_neg hc] at hj
            rw [if_neg (by omega)] at hw
            exact hr i' j e y w hel hj hw
        · rw [List.getElem?_set_ne (Ne.symm hii)] at hi
          have hj2 : j < sz := by rw [← (sized_at hsd hi).1]; exact (List.getElem?_eq_some_iff.1 hj).1
          rw [if_neg] at hw
          · exact hr i' j e1 y w hi hj hw
          · intro hc
            rcases Nat.lt_or_gt_of_ne hii with h2 | h2
            · have : i' * sz + sz ≤ i * sz := by rw [← Nat.succ_mul]; exact Nat.mul_le_mul_right _ h2
              omega
            · have : i * sz + sz ≤ i' * sz := by rw [← Nat.succ_mul]; exact Nat.mul_le_mul_right _ h2
              omega) (st + 1)
      refine OpGood.skip (C' := C.at_ (C.w.setRow l.blk (over row (l.base + i * sz + off) (a.eval x).cells.toList))) ?_ Tr S'
      simp only [execOp, hop, hu, ha, hlz, Sem.run_bind, hrun, Result.andThen_ok]
      rfl
  · cases hv
end
end Go.AM
