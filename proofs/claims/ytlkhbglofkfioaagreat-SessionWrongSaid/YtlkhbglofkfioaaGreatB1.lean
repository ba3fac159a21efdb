/- Copying, clearing, zeros appended to nil. -/
import Derived.Test.YtlkhbglofkfioaaGreatB0
set_option linter.unusedVariables false
set_option linter.unusedSimpArgs false
namespace Go.AM
open Go
section
variable {P : Program} {T : Types} {o : Oper} {a : Act} {C : Ctx} {h : Heap} {t : Tmps} {n : Nat}

theorem overEls_get {els xs : List AV} {p : Nat} (hp : p + xs.length ≤ els.length) (i : Nat) : (overEls els p xs)[i]? = if p ≤ i ∧ i < p + xs.length then xs[i - p]? else els[i]? := splice_get hp i
theorem overEls_length {els xs : List AV} {p : Nat} (hp : p + xs.length ≤ els.length) : (overEls els p xs).length = els.length := splice_length hp
theorem overEls_sized {sz : Nat} {els xs : List AV} {p : Nat} (h : sized sz els = true) (k : sized sz xs = true) : sized sz (overEls els p xs) = true := by
  unfold sized overEls at *
  rw [List.all_eq_true] at *
  intro v hv
  simp only [List.mem_append] at hv
  rcases hv with (hv | hv) | hv
  · exact h v (List.mem_of_mem_take hv)
  · exact k v hv
  · exact h v (List.mem_of_mem_drop hv)
theorem overEls_row {sz base p : Nat} {els xs : List AV} {row : Array Value} {us : List Value} (hs : sized sz els = true) (hx : sized sz xs = true) (hp : p + xs.length ≤ els.length) (hlen : base + els.length * sz ≤ row.size) (hr : RowOf C sz els row base)
    (hul : us.length = xs.length * sz) (hu : ∀ (k : Nat) (x : AV) (v : Value), (flat xs)[k]? = some x → us[k]? = some v → VR C x v) : RowOf C sz (overEls els p xs) (over row (base + p * sz) us) base := by
  have hm : (p + xs.length) * sz ≤ els.length * sz := Nat.mul_le_mul_right _ hp
  rw [Nat.add_mul] at hm
  intro i j e x v hi hj hv
  rw [overEls_get hp] at hi
  rw [over_get (by omega)] at hv
  split at hi
  · rename_i hc
    have hjl : j < sz := by rw [← (sized_at hx hi).1]; exact (List.getElem?_eq_some_iff.1 hj).1
    have e1 : i * sz = p * sz + (i - p) * sz := by rw [← Nat.add_mul]; congr 1; omega
    have e2 : (i - p) * sz + sz ≤ xs.length * sz := by rw [← Nat.succ_mul]; exact Nat.mul_le_mul_right _ (by omega)
    rw [if_pos (by omega)] at hv
    refine hu ((i - p) * sz + j) x v (by rw [flat_get hx hi hjl]; exact hj) ?_
    rw [← hv]; congr 1; omega
  · rename_i hc
    have hjl : j < sz := by rw [← (sized_at hs hi).1]; exact (List.getElem?_eq_some_iff.1 hj).1
    rw [if_neg] at hv
    · exact hr i j e x v hi hj hv
    · intro hc2
      apply hc
      constructor
      · rcases Nat.lt_or_ge i p with h1 | h1
        · have : i * sz + sz ≤ p * sz := by rw [← Nat.succ_mul]; exact Nat.mul_le_mul_right _ h1
          omega
        · exact h1
      · rcases Nat.lt_or_ge i (p + xs.length) with h1 | h1
        · exact h1
        · have : (p + xs.length) * sz ≤ i * sz := Nat.mul_le_mul_right _ h1
          rw [Nat.add_mul] at this
          omega
theorem exec_copy {x y : Operand} {ts : Array TypeId} {w w' : World} {v : Value} (hop : o.op = .call { callee := .builtin .copy, args := #[x, y], argTypes := ts }) (hr : (Builtin.copy_ ts o.type #[a.eval x, a.eval y]).run P w = .ok v w') :
    (execOp a.eval o).run P w = .ok (.value v) w' := by
  simp only [execOp, hop, resolve, invoke, builtin, Sem.run_bind, Sem.run_pure, Result.andThen_ok, List.map_toArray, List.map_cons, List.map_nil, hr]
theorem exec_clear {x : Operand} {ts : Array TypeId} {w w' : World} {v : Value} (hop : o.op = .call { callee := .builtin .clear, args := #[x], argTypes := ts }) (hr : (Builtin.clear_ ts o.type #[a.eval x]).run P w = .ok v w') :
    (execOp a.eval o).run P w = .ok (.value v) w' := by
  simp only [execOp, hop, resolve, invoke, builtin, Sem.run_bind, Sem.run_pure, Result.andThen_ok, List.map_toArray, List.map_cons, List.map_nil, hr]
theorem op_copy {x y : Operand} {x' y' : AOpd} {ty tu e : TypeId} {ti te : TI} (F : Facts P T) (hop : o.op = .call { callee := .builtin .copy, args := #[x, y], argTypes := #[ty, tu] }) (ht : T ty = some ti) (hk : ti.kind = .slice e) (hte : T e = some te)
    (hx : trOpd x = some x') (hy : trOpd y = some y') (S : Sim C h) (hT : TR C t a n) {ys : List AV} (hys : elsOf h (ev t y') = some ys) {id ver sz0 off len sz st : Nat} {els : List AV} (he : ev t x' = .ob id ver sz0 off len) (hg : arrAt h id ver = some (sz, els, false, st))
    (hz : te.size = sz) (hle : off + len ≤ els.length) (hs : sized te.size ys = true) : OpGood P o a C (h.put id ⟨.arr te.size (overEls els off (ys.take (min ys.length len))) false, ver, st + 1⟩) (.int .i64 (min ys.length len : Nat)) := by
  have hxv := ev_ok hT hx
  rw [he] at hxv
  obtain ⟨ad, c, news, hyu, _, H⟩ := src_of S (ev_ok hT hy) hys hs
  subst hz
  obtain ⟨hver, hver1, l, row, et, hl, hlz, how, _, hsd, hrow, hlen, hr⟩ := S.arrAt hg
  have hown := how rfl
  obtain ⟨bd, cap, hxu, hcap, _, _, hh⟩ := VR.ob_inv hxv
  obtain ⟨l', row', e2, hl', hlz', hbd, hrow', hcs⟩ := hh hver
  rw [hl] at hl'
  cases hl'
  rw [hrow] at hrow'
  cases hrow'
  obtain rfl : sz0 = te.size := hlz'.symm.trans hlz
  have hsl := F.slice ht hk
  have hnl : news.length = ys.length * te.size := by rw [H.len, flat_length hs]
  generalize hm : min ys.length len = m
  have hmy : m ≤ ys.length := by omega
  have hml : m ≤ len := by omega
  have htk : (ys.take m).length = m := by simp; omega
  have hmul : m * te.size ≤ ys.length * te.size := Nat.mul_le_mul_right _ hmy
  have hcl : (news.take (m * te.size)).length = m * te.size := by simp; omega
  have hcell : ∀ ad', ad = some ad' → ∀ (j : Nat) (v : Value), (news.take (m * te.size))[j]? = some v → C.w.cell? (ad'.add j) = some v := by
    intro ad' hd j v hj
    rw [List.getElem?_take] at hj
    split at hj
    · exact H.cells ad' hd j v hj
    · cases hj
  have hfirst : (Builtin.firstCells te.size m (.slice ad ys.length c)).run P C.w = .ok (news.take (m * te.size)).toArray C.w := by
    cases had : ad with
    | none =>
      obtain ⟨h1, h2⟩ := H.none had
      have : news = [] := List.eq_nil_of_length_eq_zero (by rw [hnl, h1]; simp)
      rw [this, h1]
      simp [Builtin.firstCells]
    | some ad' => exact run_firstCells_some C.w te.size m ad' _ c _ hcl (hcell ad' had)
  have hones : ∀ u ∈ news.take (m * te.size), u.oneCell' = true := fun u hu => H.ones hs u (List.mem_of_mem_take hu)
  have hsub : sized te.size (ys.take m) = true := sized_sub hs fun e he => List.mem_of_mem_take he
  have hmul2 : (off + m) * te.size ≤ els.length * te.size := Nat.mul_le_mul_right _ (by omega)
  rw [Nat.add_mul] at hmul2
  have hfit : l.base + off * te.size + (news.take (m * te.size)).length ≤ row.size := by rw [hcl]; omega
  have hstore : (storeCells bd (news.take (m * te.size))).run P C.w = .ok () (C.w.setRow l.blk (over row (l.base + off * te.size) (news.take (m * te.size)))) := by
    rcases Nat.eq_zero_or_pos m with h0 | h0
    · subst h0
      simp only [Nat.zero_mul, List.take_zero, storeCells, over, List.length_nil, Nat.add_zero, List.append_nil, List.take_append_drop, Array.toArray_toList]
      rw [setRow_self C.w l.blk row et (0, 0) hrow]
      rfl
    · rw [hbd (by omega)]
      have := run_storeCells_at P l.blk (l.base + off * te.size) et (news.take (m * te.size)) 0 row C.w hrow (by simpa using hfit) hones
      simpa [over] using this
  have hrowN := overEls_row (p := off) hsd hsub (by rw [htk]; omega) hlen hr (us := news.take (m * te.size)) (by rw [hcl, htk]) (fun k x v hx hv => by
    rw [List.getElem?_take] at hv
    split at hv
    · refine H.vr k x v ?_ hv
      have : flat ys = flat (ys.take m) ++ flat (ys.drop m) := by rw [← flat_append, List.take_append_drop]
      rw [this, List.getElem?_append_left]
      · exact hx
      · exact (List.getElem?_eq_some_iff.1 hx).1
    · cases hv)
  obtain ⟨Tr, S'⟩ := S.setArr hg hl hlz hown hrow (over_size hfit) (overEls_sized hsd hsub) (by rw [overEls_length (by rw [htk]; omega)]; exact hlen) hrowN (st + 1)
  refine OpGood.value (C' := C.at_ (C.w.setRow l.blk (over row (l.base + off * te.size) (news.take (m * te.size))))) (u := .int .i64 (m : Nat)) (exec_copy hop ?_) Tr S' (.int _ _)
  rw [hxu, hyu]
  have hmm : Nat.min ys.length len = m := hm
  simp only [Builtin.copy_, Sem.run_bind, run_underlying hsl, Result.andThen_ok, List.getElem?_toArray, List.getElem?_cons_zero, List.getElem?_cons_succ, Builtin.lenOf, Sem.run_pure, F.size hte, hmm, hfirst, hstore, goInt]
  simp [hcl]
  rfl
theorem zeroCells_eq {zv : Value} {sz : Nat} (hz : zv.cells.size = sz) (k : Nat) : Builtin.zeroCells zv.cells k = (Array.range (k * sz)).map fun i => zv.cells[i % zv.cells.size]! := by
  unfold Builtin.zeroCells; rw [hz]
theorem op_clear {x : Operand} {x' : AOpd} {ty e : TypeId} {ti te : TI} (F : Facts P T) (hop : o.op = .call { callee := .builtin .clear, args := #[x], argTypes := #[ty] }) (ht : T ty = some ti) (hk : ti.kind = .slice e) (hte : T e = some te)
    (hx : trOpd x = some x') (S : Sim C h) (hT : TR C t a n) {id ver sz0 off len sz st : Nat} {els : List AV} (he : ev t x' = .ob id ver sz0 off len) (hg : arrAt h id ver = some (sz, els, false, st))
    (hz : te.size = sz) (hle : off + len ≤ els.length) : OpGood P o a C (h.put id ⟨.arr te.size (overEls els off (List.replicate len te.zero)) false, ver, st + 1⟩) undef := by
  have hxv := ev_ok hT hx
  rw [he] at hxv
  subst hz
  obtain ⟨hver, hver1, l, row, et, hl, hlz, how, _, hsd, hrow, hlen, hr⟩ := S.arrAt hg
  have hown := how rfl
  obtain ⟨bd, cap, hxu, hcap, _, _, hh⟩ := VR.ob_inv hxv
  obtain ⟨l', row', e2, hl', hlz', hbd, hrow', hcs⟩ := hh hver
  rw [hl] at hl'
  cases hl'
  rw [hrow] at hrow'
  cases hrow'
  obtain rfl : sz0 = te.size := hlz'.symm.trans hlz
  have hsl := F.slice ht hk
  have FT := F.ty e te hte
  obtain ⟨zv, hzr, hzv⟩ := F.zero hte
  have hzc : zv.cells.size = te.size := by rw [(VR.cells (hzv C)).1, FT.zlen]
  have hzo := zeros_ok (hzv C) FT.zlen FT.zsc len
  rw [← zeroCells_eq hzc] at hzo
  have hsub := sized_replicate FT.zlen FT.zsc len
  have hrl : (List.replicate len te.zero).length = len := by simp
  have hzl : (Builtin.zeroCells zv.cells len).toList.length = len * te.size := by simp [Builtin.zeroCells, hzc]
  have hmul2 : (off + len) * te.size ≤ els.length * te.size := Nat.mul_le_mul_right _ hle
  rw [Nat.add_mul] at hmul2
  have hfit : l.base + off * te.size + (Builtin.zeroCells zv.cells len).toList.length ≤ row.size := by rw [hzl]; omega
  have hsc : scalars (flat (List.replicate len te.zero)) = true := by
    unfold scalars
    rw [List.all_eq_true]
    intro v hv
    simp only [flat, List.mem_flatMap] at hv
    obtain ⟨e, he, hv⟩ := hv
    rw [List.eq_of_mem_replicate he] at hv
    exact List.all_eq_true.1 FT.zsc v hv
  have hrowN := overEls_row (p := off) hsd hsub (by rw [hrl]; exact hle) hlen hr (us := (Builtin.zeroCells zv.cells len).toList) (by rw [hzl, hrl]) (fun k x v hx hv => hzo.2 k x v hx (by simpa using hv))
  obtain ⟨Tr, S'⟩ := S.setArr hg hl hlz hown hrow (over_size hfit) (overEls_sized hsd hsub) (by rw [overEls_length (by rw [hrl]; exact hle)]; exact hlen) hrowN (st + 1)
  refine OpGood.value (C' := C.at_ (C.w.setRow l.blk (over row (l.base + off * te.size) (Builtin.zeroCells zv.cells len).toList))) (u := .tuple #[]) (exec_clear hop ?_) Tr S' (VR.tup [] #[] rfl fun i x v h => by simp at h)
  rw [hxu]
  rcases Nat.eq_zero_or_pos len with h0 | h0
  · subst h0
    have : over row (l.base + off * te.size) (Builtin.zeroCells zv.cells 0).toList = row := by simp [over, Builtin.zeroCells]
    rw [this, setRow_self C.w l.blk row et (0, 0) hrow]
    simp [Builtin.clear_, run_underlying hsl]
    rfl
  · have hst := run_storeCells_at P l.blk (l.base + off * te.size) et (Builtin.zeroCells zv.cells len).toList 0 row C.w hrow (by simpa using hfit) (hzo.ones hsc)
    rw [hbd (by omega)]
    have hst2 : (storeCells ⟨l.blk, l.base + off * te.size, none⟩ (Builtin.zeroCells zv.cells len).toList).run P C.w = .ok () (C.w.setRow l.blk (over row (l.base + off * te.size) (Builtin.zeroCells zv.cells len).toList)) := by simpa [over] using hst
    obtain ⟨m, rfl⟩ : ∃ m, len = m + 1 := ⟨len - 1, by omega⟩
    simp [Builtin.clear_, run_underlying hsl, hzr, hst2]
    rfl
theorem op_clear_nothing {x : Operand} {x' : AOpd} {ty e : TypeId} {ti : TI} (F : Facts P T) (hop : o.op = .call { callee := .builtin .clear, args := #[x], argTypes := #[ty] }) (ht : T ty = some ti) (hk : ti.kind = .slice e)
    (hx : trOpd x = some x') (S : Sim C h) (hT : TR C t a n) {tag : Tag} (he : ev t x' = .sl [] tag) : OpGood P o a C h undef := by
  have hxv := ev_ok hT hx
  rw [he] at hxv
  obtain ⟨ad, c, b, p, sz', hu, _⟩ := VR.sl_inv hxv
  have hsl := F.slice ht hk
  refine OpGood.same (u := .tuple #[]) (exec_clear hop ?_) S (VR.tup [] #[] rfl fun i x v h => by simp at h)
  rw [hu]
  cases ad <;> simp [Builtin.clear_, run_underlying hsl]
theorem op_appz {x y : Operand} {x' y' : AOpd} {ty tu e : TypeId} {ti te tj : TI} {kj : IntKind} (F : Facts P T) (hop : o.op = .call { callee := .builtin .append, args := #[x, y], argTypes := #[ty, tu] }) (ht : T ty = some ti) (hk : ti.kind = .slice e) (hte : T e = some te) (htu : T tu = some tj) (hkj : tj.kind = .int kj)
    (hx : trOpd x = some x') (hy : trOpd y = some y') (S : Sim C h) (hT : TR C t a n) {k : Nat} (hkn : natOf (ev t y') = some k) (hroom : k * te.bytes ≤ room) (h0 : 0 < k) (hs0 : 0 < te.size) (he : ev t x' = .sl [] .nil) :
    OpGood P o a C (h.push ⟨.arr te.size (List.replicate k te.zero) false, 1, 0⟩) (.ob h.next 1 te.size 0 k) := by
  have hxv := ev_ok hT hx
  rw [he] at hxv
  obtain ⟨ad, c, b, p, sz', hxu, _, htag, _⟩ := VR.sl_inv hxv
  obtain ⟨rfl, _, rfl⟩ := htag
  obtain ⟨kk, hyu, _⟩ := natOf_ok hy hT hkn
  have hsl := F.slice ht hk
  have hint : P.underlying tu = some (.int kj) := by
    obtain ⟨d', h3, h4⟩ := F.und htu
    rw [hkj] at h4
    rw [h3, (desc_int h4).1]
  have FT := F.ty e te hte
  obtain ⟨i, zv, hi, hisz, hib, hiz, hzs⟩ := FT.info
  have hzv : ∀ C : Ctx, VR C te.zero zv := fun C => VR.ofZ hzs
  have hzc : zv.cells.size = te.size := by rw [(VR.cells (hzv C)).1, FT.zlen]
  have hrm : room = 140737488355328 := rfl
  have h63 : k ≤ k * te.bytes := Nat.le_mul_of_pos_right _ FT.pos
  have hrun := Go.Lib.run_append_nil_zeros (P := P) C.w ty tu o.type e i zv kk kj hsl hint hi hiz k h0 (by rw [hisz]; exact hs0) (by omega) (by rw [hib]; omega)
  have hge := grownCap_ge C.w k 0 e
  have T1 := Trans.same (drew_same C.w)
  have S1 := S.same (drew_same C.w)
  have hsub := sized_replicate FT.zlen FT.zsc k
  have hzo := zeros_ok (hzv (C.at_ C.w.drew)) FT.zlen FT.zsc k
  rw [← zeroCells_eq hzc] at hzo
  have hz1 : (Builtin.zeroCells zv.cells k).size = k * te.size := by simp [Builtin.zeroCells, hzc]
  have hz2 : (Builtin.zeroCells zv.cells (grownCap C.w k 0 e - k)).size = (grownCap C.w k 0 e - k) * te.size := by simp [Builtin.zeroCells, hzc]
  have hsize : (Builtin.zeroCells zv.cells k ++ Builtin.zeroCells zv.cells (grownCap C.w k 0 e - k)).size = grownCap C.w k 0 e * te.size := by
    rw [Array.size_append, hz1, hz2, ← Nat.add_mul]; congr 1; omega
  obtain ⟨Tr, S', hvr⟩ := S1.newArr te.size (List.replicate k te.zero) (Builtin.zeroCells zv.cells k ++ Builtin.zeroCells zv.cells (grownCap C.w k 0 e - k)) e k (grownCap C.w k 0 e) hsub
    (RowOf.ofFlat' hsub fun k' x v hx hv => by
      have hk' := (List.getElem?_eq_some_iff.1 hx).1
      rw [flat_length hsub, List.length_replicate] at hk'
      rw [Nat.zero_add, Array.getElem?_append_left (by rw [hz1]; exact hk')] at hv
      exact hzo.2 k' x v hx hv)
    (by rw [hsize, List.length_replicate]; exact Nat.mul_le_mul_right _ hge) hge (by rw [hsize]; exact Nat.le_refl _)
  refine OpGood.value (C' := (C.at_ C.w.drew).land h.next 1 te.size _) (exec_append hop ?_) (T1.trans Tr) S' hvr
  rw [hxu, hyu]
  exact hrun
end
end Go.AM
