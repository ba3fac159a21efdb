/- Appending. -/
import Derived.Test.YtlkhbglofkfioaaGreatA9
set_option linter.unusedVariables false
set_option linter.unusedSimpArgs false
namespace Go.AM
open Go
section
variable {P : Program} {T : Types} {o : Oper} {a : Act} {C : Ctx} {h : Heap} {t : Tmps} {n : Nat}

theorem run_append_nothing {t' tx ty e : TypeId} {i : TypeInfo} {x : Value} {base : Option Addr} {sLen sCap : Nat} {w : World} (ht : P.underlying t' = some (.slice e)) (hi : P.info? e = some i) (hle : sLen ≤ sCap) (hs : Src P i.size tx x 0 [] w) :
    (Builtin.append_ #[t', tx] ty #[.slice base sLen sCap, x]).run P w = .ok (.slice base sLen sCap) w := by
  rcases hs.kind with ⟨e', hk⟩ | hk <;> cases base <;> simp [Builtin.append_, run_underlying ht, run_underlying hk, sizeOf, typeInfo, hi, hs.len, hle, hs.cells, storeCells]
theorem run_append_room_over {t' tx ty e et : TypeId} {i : TypeInfo} {x : Value} {g p sLen sCap m : Nat} {news : List Value} {cur : Array Value} {w : World} (ht : P.underlying t' = some (.slice e)) (hi : P.info? e = some i) (hg : w.heap[g]? = some (.cells cur et (0, 0))) (hs : Src P i.size tx x m news w)
    (hroom : sLen + m ≤ sCap) (hfit : p + sLen * i.size + news.length ≤ cur.size) :
    (Builtin.append_ #[t', tx] ty #[.slice (some ⟨g, p, none⟩) sLen sCap, x]).run P w = .ok (.slice (some ⟨g, p, none⟩) (sLen + m) sCap) (w.setRow g (over cur (p + sLen * i.size) news)) := by
  have hst := run_storeCells_at P g (p + sLen * i.size) et news 0 cur w hg (by simpa using hfit) hs.one
  simp only [Nat.add_zero] at hst
  rcases hs.kind with ⟨e', hk⟩ | hk <;> simp [Builtin.append_, run_underlying ht, run_underlying hk, sizeOf, typeInfo, hi, hs.len, hroom, hs.cells, Addr.add_lit, hst, over]
theorem exec_append {x y : Operand} {ty tu : TypeId} {w w' : World} {v : Value} (hop : o.op = .call { callee := .builtin .append, args := #[x, y], argTypes := #[ty, tu] }) (hr : (Builtin.append_ #[ty, tu] o.type #[a.eval x, a.eval y]).run P w = .ok v w') :
    (execOp a.eval o).run P w = .ok (.value v) w' := by
  simp only [execOp, hop, resolve, invoke, builtin, Sem.run_bind, Sem.run_pure, Result.andThen_ok, List.map_toArray, List.map_cons, List.map_nil, hr]
/-- The row of a slice that was grown. -/
theorem grown_row {sz : Nat} {els ys : List AV} {olds news : List Value} {Z : Array Value} (he : sized sz els = true) (hy : sized sz ys = true) (hol : olds.length = (flat els).length) (ho : ∀ (k : Nat) (x : AV) (v : Value), (flat els)[k]? = some x → olds[k]? = some v → VR C x v)
    (hnl : news.length = (flat ys).length) (hn : ∀ (k : Nat) (x : AV) (v : Value), (flat ys)[k]? = some x → news[k]? = some v → VR C x v) :
    RowOf C sz (els ++ ys) ((olds ++ news).toArray ++ Z) 0 ∧ ((olds ++ news).toArray ++ Z).size = (els.length + ys.length) * sz + Z.size := by
  have h1 := flat_length he
  have h2 := flat_length hy
  refine ⟨RowOf.ofFlat' (sized_append he hy) fun k x v hx hv => ?_, ?_⟩
  · have hk : k < (flat els).length + (flat ys).length := by
      have := (List.getElem?_eq_some_iff.1 hx).1
      rwa [flat_append, List.length_append] at this
    rw [Nat.zero_add, Array.getElem?_append_left (by simp; omega), List.getElem?_toArray] at hv
    rw [flat_append] at hx
    by_cases hlt : k < (flat els).length
    · rw [List.getElem?_append_left hlt] at hx
      rw [List.getElem?_append_left (by omega)] at hv
      exact ho k x v hx hv
    · rw [List.getElem?_append_right (by omega)] at hx hv
      rw [hol] at hv
      exact hn _ x v hx hv
  · simp [Nat.add_mul]; omega
theorem drew_same (w : World) : SameHeap w w.drew := ⟨rfl, rfl, rfl, rfl⟩
/-- Elements of which some lie elsewhere: what was read stays so. -/
theorem sub_flat_vr {ys : List AV} {ad : Option Addr} {c : Nat} {news : List Value} {C' : Ctx} (H : SrcOf C ys ad c news) (Tr : Trans C C') : ∀ (k : Nat) (x : AV) (v : Value), (flat ys)[k]? = some x → news[k]? = some v → VR C' x v := fun k x v hx hv => (H.vr k x v hx hv).trans Tr
theorem nonempty_len {ys : List AV} (h : ys ≠ []) : 0 < ys.length := List.length_pos_iff.2 h

theorem op_app {x y : Operand} {x' y' : AOpd} {ty tu e e' : TypeId} {ti te tj : TI} {ro : Bool} (F : Facts P T) (hop : o.op = .call { callee := .builtin .append, args := #[x, y], argTypes := #[ty, tu] }) (ht : T ty = some ti) (hk : ti.kind = .slice e) (hte : T e = some te) (htu : T tu = some tj) (hkj : tj.kind = .slice e')
    (hx : trOpd x = some x') (hy : trOpd y = some y') (S : Sim C h) (hT : TR C t a n) {ys : List AV} (hys : elsOf h (ev t y') = some ys) {v : AV} {h' : Heap} (hv : appendTo h te.size te.bytes ro (ev t x') ys = some (v, h')) : OpGood P o a C h' v := by
  have hxv := ev_ok hT hx
  have hyv := ev_ok hT hy
  have hsl := F.slice ht hk
  have hsu := F.slice htu hkj
  have FT := F.ty e te hte
  obtain ⟨i, zv, hi, hisz, hib, hiz, hzs⟩ := FT.info
  have hzc : zv.cells.size = te.size := by rw [(VR.cells (VR.ofZ (C := C) hzs)).1, FT.zlen]
  unfold appendTo at hv
  split at hv
  · -- nothing is appended
    have hsrc : Src P i.size tu (a.eval y) 0 [] C.w := by
      rw [hisz]
      obtain ⟨ad, c, news, hu, _, H⟩ := src_of S hyv hys (sz := te.size) rfl
      have hn : news = [] := List.eq_nil_of_length_eq_zero (by rw [H.len]; rfl)
      have := H.src (P := P) (sz := te.size) rfl hsu
      rw [hn] at this
      rw [hu]; exact this
    have fin : ∀ {base : Option Addr} {sl sc : Nat}, a.eval x = .slice base sl sc → sl ≤ sc → OpGood P o a C h (ev t x') := by
      intro base sl sc hu hle
      refine OpGood.same (u := a.eval x) (exec_append hop ?_) S hxv
      rw [hu]
      exact run_append_nothing hsl hi hle hsrc
    split at hv
    · rename_i els tag he
      have hxv := he ▸ hxv
      obtain ⟨ad, c, b, p, sz', hu, hn, _⟩ := VR.sl_inv hxv
      cases hv
      exact fin hu hn
    · rename_i id ver sz off len he
      have hxv := he ▸ hxv
      obtain ⟨ad, cap, hu, hn, _⟩ := VR.ob_inv hxv
      cases hv
      exact fin hu hn
    · cases hv
  · rename_i hne
    have hne' : ys ≠ [] := fun e => hne e
    have hpos := nonempty_len hne'
    split at hv
    · -- onto an inline slice: a new row
      rename_i els tag he
      rw [he] at hxv
      have hfull : tag ≠ .non := by rintro rfl; cases hv
      have hv2 : (bif Nat.ble ((els.length + ys.length) * te.bytes) room && sized te.size ys && sized te.size els then some (AV.ob h.next 1 te.size 0 (els.length + ys.length), h.push ⟨.arr te.size (els ++ ys) false, 1, 0⟩) else none) = some (v, h') := by
        cases tag with
        | non => exact absurd rfl hfull
        | nil => exact hv
        | full => exact hv
      clear hv
      cases hb : (Nat.ble ((els.length + ys.length) * te.bytes) room && sized te.size ys && sized te.size els) with
      | false => rw [hb] at hv2; cases hv2
      | true =>
        rw [hb] at hv2
        simp only [cond_true, Option.some.injEq, Prod.mk.injEq] at hv2
        obtain ⟨rfl, rfl⟩ := hv2
        simp only [Bool.and_eq_true] at hb
        obtain ⟨⟨hb1, hb2⟩, hb3⟩ := hb
        have hb1 := Nat.le_of_ble_eq_true hb1
        obtain ⟨ad, c, news, hyu, _, H⟩ := src_of S hyv hys hb2
        obtain ⟨bd, cap, b0, p0, sz0, hxu, hxn, htag, _⟩ := VR.sl_inv hxv
        have hcap : cap = els.length := by
          cases tag with
          | nil => rw [htag.2.1, htag.2.2]
          | full => exact htag.2
          | non => exact absurd rfl hfull
        obtain ⟨bd', cap', olds, hxu', _, K⟩ := src_of (h := h) S hxv (ys := els) rfl hb3
        rw [hxu] at hxu'
        simp only [Value.slice.injEq, true_and] at hxu'
        obtain ⟨rfl, rfl⟩ := hxu'
        have hsrc := H.src (P := P) hb2 hsu
        have hold := K.first (P := P) hb3
        have h63 : els.length + ys.length ≤ (els.length + ys.length) * te.bytes := Nat.le_mul_of_pos_right _ FT.pos
        have hrm : room = 140737488355328 := rfl
        rw [hcap] at hold hxu
        have hrun := run_append_grow_src (P := P) C.w ty tu o.type e i zv hsl hi hiz bd els.length els.length olds (by rw [hisz]; exact hold) _ ys.length news (by rw [hisz]; exact hsrc) (by omega) (by omega) (by rw [hib]; exact growslice_fits (by omega) (by rw [← hrm]; exact hb1))
        have hge := grownCap_ge C.w (els.length + ys.length) els.length e
        have T1 := Trans.same (drew_same C.w)
        have S1 := S.same (drew_same C.w)
        obtain ⟨hrow, hsize⟩ := grown_row (C := C.at_ C.w.drew) (Z := Builtin.zeroCells zv.cells (grownCap C.w (els.length + ys.length) els.length e - (els.length + ys.length))) hb3 hb2 K.len (sub_flat_vr K T1) H.len (sub_flat_vr H T1)
        have hZ : (Builtin.zeroCells zv.cells (grownCap C.w (els.length + ys.length) els.length e - (els.length + ys.length))).size = (grownCap C.w (els.length + ys.length) els.length e - (els.length + ys.length)) * te.size := by simp [Builtin.zeroCells, hzc]
        rw [hZ, ← Nat.add_mul] at hsize
        obtain ⟨Tr, S', hvr⟩ := S1.newArr te.size (els ++ ys) _ e (els.length + ys.length) (grownCap C.w (els.length + ys.length) els.length e) (sized_append hb3 hb2) hrow (by rw [hsize, List.length_append]; exact Nat.mul_le_mul_right _ (by omega)) hge (by rw [hsize]; exact Nat.mul_le_mul_right _ (by omega))
        refine OpGood.value (C' := (C.at_ C.w.drew).land h.next 1 te.size _) (exec_append hop ?_) (T1.trans Tr) S' hvr
        rw [hxu, hyu]
        exact hrun
    · -- onto a row of one's own
      rename_i id ver sz0 off len he
      rw [he] at hxv
      split at hv
      · rename_i sz els st hg
        cases hb : (Nat.beq sz te.size && Nat.ble (off + len) els.length && Nat.ble ((len + ys.length) * te.bytes) room && sized te.size ys) with
        | false => simp only [hb] at hv; cases hv
        | true =>
          simp only [hb, cond_true] at hv
          simp only [Bool.and_eq_true] at hb
          obtain ⟨⟨⟨hbz, hb0⟩, hb1⟩, hb2⟩ := hb
          have hbz := Nat.eq_of_beq_eq_true hbz
          subst hbz
          have hb0 := Nat.le_of_ble_eq_true hb0
          have hb1 := Nat.le_of_ble_eq_true hb1
          obtain ⟨hver, hver1, l, row, et, hl, hlz, how, _, hsd, hrow, hlen, hr⟩ := S.arrAt hg
          have hown := how rfl
          have hget := arrAt_get hg
          obtain ⟨bd, cap, hxu, hcap, _, _, hh⟩ := VR.ob_inv hxv
          obtain ⟨l', row', e2, hl', hlz', hbd, hrow', hcs⟩ := hh hver
          rw [hl] at hl'
          cases hl'
          rw [hrow] at hrow'
          cases hrow'
          obtain rfl : sz0 = te.size := hlz'.symm.trans hlz
          have hel : elsOf h (.ob id ver te.size off len) = some ((els.drop off).take len) := by
            simp only [elsOf, hg, Option.bind_some]
            rw [Nat.ble_eq_true_of_le hb0]; rfl
          have hsub : sized te.size ((els.drop off).take len) = true := sized_sub hsd fun e hm => List.mem_of_mem_drop (List.mem_of_mem_take hm)
          have htl : ((els.drop off).take len).length = len := by simp; omega
          obtain ⟨ad, c, news, hyu, _, H⟩ := src_of S hyv hys hb2
          obtain ⟨bd', cap', olds, hxu', _, K⟩ := src_of S hxv hel hsub
          rw [hxu, htl] at hxu'
          simp only [Value.slice.injEq, true_and] at hxu'
          obtain ⟨rfl, rfl⟩ := hxu'
          have hsrc := H.src (P := P) hb2 hsu
          have hnl : news.length = ys.length * te.size := by rw [H.len, flat_length hb2]
          have hall := sized_append hsub hb2
          have hallL : ((els.drop off).take len ++ ys).length = len + ys.length := by rw [List.length_append, htl]
          have hlt : l.blk < C.w.heap.size := S.loc_lt hl
          have hver0 : C.ver id ≠ 0 := by omega
          have hvo : verOf h id = ver := by unfold verOf; rw [hget]
          have hfr : ∀ {en : Ent} (j : Nat), (h.put id en).next ≤ j → (h.put id en).get j = none := by
            intro en j hj
            rw [Heap.get_put, if_neg (fun e => by subst e; have := S.fresh _ hj; rw [hget] at this; cases this)]
            exact S.fresh j hj
          by_cases hroom : len + ys.length ≤ cap
          · -- there is room
            have hbd := hbd (by omega)
            subst hbd
            have hmul : (off + (len + ys.length)) * te.size ≤ (off + cap) * te.size := Nat.mul_le_mul_right _ (by omega)
            have hfit : l.base + off * te.size + len * te.size + news.length ≤ row.size := by
              rw [hnl]
              have : (off + (len + ys.length)) * te.size = off * te.size + len * te.size + ys.length * te.size := by rw [Nat.add_mul, Nat.add_mul, Nat.add_assoc]
              omega
            have hrun := run_append_room_over (P := P) (ty := o.type) hsl hi hrow (by rw [hisz]; exact hsrc) hroom (by rw [hisz]; exact hfit) (p := l.base + off * te.size)
            rw [hisz] at hrun
            have W := Wrote.setRow hrow (over row (l.base + off * te.size + len * te.size) news) (over_size hfit)
            have hrowN : ∀ (k : Nat) (x : AV) (v : Value), (flat ((els.drop off).take len ++ ys))[k]? = some x → (over row (l.base + off * te.size + len * te.size) news)[l.base + off * te.size + k]? = some v → VR C x v := by
              intro k x v hx hv
              rw [flat_append] at hx
              rw [over_get hfit] at hv
              have hfl := flat_length hsub
              rw [htl] at hfl
              by_cases hlt : k < len * te.size
              · rw [List.getElem?_append_left (by omega)] at hx
                rw [if_neg (by omega)] at hv
                obtain ⟨i', j', e3, hi3, hj3, hk3, _⟩ := flat_split hsub hx
                have hi4 : els[off + i']? = some e3 := by
                  rw [List.getElem?_take] at hi3
                  split at hi3
                  · rw [List.getElem?_drop] at hi3; exact hi3
                  · cases hi3
                refine hr (off + i') j' e3 x v hi4 hj3 ?_
                rw [← hv, hk3]
                congr 1
                rw [Nat.add_mul]; omega
              · rw [List.getElem?_append_right (by omega)] at hx
                have hk2 : k - (flat ((els.drop off).take len)).length < (flat ys).length := (List.getElem?_eq_some_iff.1 hx).1
                rw [hfl] at hx hk2
                rw [flat_length hb2] at hk2
                rw [if_pos (by omega)] at hv
                refine H.vr _ x v hx ?_
                rw [← hv]
                congr 1
                omega
            cases ro with
            | true =>
              simp only [cond_true] at hv
              cases hbe : Nat.beq (off + len) els.length with
              | false => rw [hbe] at hv; cases hv
              | true =>
                rw [hbe] at hv
                simp only [cond_true, Option.some.injEq, Prod.mk.injEq] at hv
                obtain ⟨rfl, rfl⟩ := hv
                have hbe := Nat.eq_of_beq_eq_true hbe
                obtain ⟨Tr, S'⟩ := S.rest (w := C.w.setRow l.blk (over row (l.base + off * te.size + len * te.size) news)) (h' := h.put id ⟨.arr te.size els true, ver, st + 1⟩) hl hown (Stays.wrote W) W.row (fun j hj => by rw [Heap.get_put, if_neg hj]) (by rw [verOf_put, if_pos rfl, hvo]) hfr (fun Tr => by
                  rw [Heap.get_put, if_pos rfl]
                  refine ⟨hver1, l, hl, hlz, fun hh => (by cases hh), fun _ hc => hc.2 rfl, hsd, _, et, setRow_heap C.w l.blk row _ et (0, 0) hrow, by rw [over_size hfit]; exact hlen, fun i' j' e3 x v hi3 hj3 hv3 => ?_⟩
                  rw [over_get hfit] at hv3
                  have hil : i' < els.length := (List.getElem?_eq_some_iff.1 hi3).1
                  have hjl : j' < te.size := by rw [← (sized_at hsd hi3).1]; exact (List.getElem?_eq_some_iff.1 hj3).1
                  have hm : i' * te.size + te.size ≤ (off + len) * te.size := by rw [← Nat.succ_mul]; exact Nat.mul_le_mul_right _ (by omega)
                  rw [Nat.add_mul] at hm
                  rw [if_neg (by omega)] at hv3
                  exact (hr i' j' e3 x v hi3 hj3 hv3).trans Tr)
                refine OpGood.value (C' := C.rest l.blk (C.w.setRow l.blk (over row (l.base + off * te.size + len * te.size) news))) (u := .slice (some ⟨l.blk, l.base + off * te.size, none⟩) (len + ys.length) cap) (exec_append hop (by rw [hxu, hyu]; exact hrun)) Tr S' ?_
                have hR : (C.rest l.blk (C.w.setRow l.blk (over row (l.base + off * te.size + len * te.size) news))).w.heap[l.blk]? = some (.cells (over row (l.base + off * te.size + len * te.size) news) et (0, 0)) := setRow_heap C.w l.blk row _ et (0, 0) hrow
                have hv3 := VR.sl (C := C.rest l.blk (C.w.setRow l.blk (over row (l.base + off * te.size + len * te.size) news))) ((els.drop off).take len ++ ys) .non (some ⟨l.blk, l.base + off * te.size, none⟩) cap l.blk (l.base + off * te.size) te.size (by rw [hallL]; exact hroom) (by simp [TagOk]) (fun _ => ⟨rfl, fun hc => hc.2 rfl, Nat.lt_of_lt_of_le hlt Tr.size⟩) hall (fun i' e3 j' x hi3 hj3 => ?_) (fun i' e3 j' x v hi3 hj3 hc3 => ?_)
                · rw [hallL] at hv3; exact hv3
                · have hil : i' < len + ys.length := by rw [← hallL]; exact (List.getElem?_eq_some_iff.1 hi3).1
                  have hjl : j' < te.size := by rw [← (sized_at hall hi3).1]; exact (List.getElem?_eq_some_iff.1 hj3).1
                  have hm : i' * te.size + te.size ≤ (len + ys.length) * te.size := by rw [← Nat.succ_mul]; exact Nat.mul_le_mul_right _ hil
                  rw [Nat.add_mul] at hm
                  rw [cell?_at, hR]
                  simp only
                  rw [Array.getElem?_eq_getElem (by rw [over_size hfit]; omega)]; rfl
                · rw [cell?_at, hR] at hc3
                  simp only at hc3
                  have hjl : j' < te.size := by rw [← (sized_at hall hi3).1]; exact (List.getElem?_eq_some_iff.1 hj3).1
                  refine (hrowN (i' * te.size + j') x v (by rw [flat_get hall hi3 hjl]; exact hj3) (by rw [← Nat.add_assoc]; exact hc3)).trans Tr
            | false =>
              simp only [cond_false, Option.some.injEq, Prod.mk.injEq] at hv
              obtain ⟨rfl, rfl⟩ := hv
              have hT2 : Trans C (C.turn id (ver + 1) (some ⟨l.blk, l.base + off * te.size, te.size⟩) C.own (C.w.setRow l.blk (over row (l.base + off * te.size + len * te.size) news))) := Trans.turn hl hown (by omega) hver0 (Stays.wrote W) (fun _ _ h => h) (fun j lj hj hlj => ⟨fun e => S.apart id j l lj (Ne.symm hj) hl hlj hown e.symm, S.loc_lt hlj⟩)
              have hloc : (C.turn id (ver + 1) (some ⟨l.blk, l.base + off * te.size, te.size⟩) C.own (C.w.setRow l.blk (over row (l.base + off * te.size + len * te.size) news))).loc id = some ⟨l.blk, l.base + off * te.size, te.size⟩ := by
                show (if id = id then _ else _) = _; rw [if_pos rfl]
              have hvv : (C.turn id (ver + 1) (some ⟨l.blk, l.base + off * te.size, te.size⟩) C.own (C.w.setRow l.blk (over row (l.base + off * te.size + len * te.size) news))).ver id = ver + 1 := by
                show (if id = id then ver + 1 else _) = _; rw [if_pos rfl]
              obtain ⟨Tr, S'⟩ := S.turn (h' := h.put id ⟨.arr te.size ((els.drop off).take len ++ ys) false, ver + 1, st + 1⟩) (id := id) (v := ver + 1) (l' := some ⟨l.blk, l.base + off * te.size, te.size⟩) (own' := C.own) (w := C.w.setRow l.blk (over row (l.base + off * te.size + len * te.size) news)) hl hown (by omega) hver0 (Stays.wrote W) (fun b hb => ⟨fun h => h, fun _ h => h⟩) (fun j hj => by rw [Heap.get_put, if_neg hj]) (by rw [verOf_put, if_pos rfl]) hfr
                (by
                  rw [Heap.get_put, if_pos rfl]
                  refine ⟨by omega, _, hloc, rfl, fun _ => hown, fun hh => (by cases hh), hall, _, et, setRow_heap C.w l.blk row _ et (0, 0) hrow, ?_, fun i' j' e3 x v hi3 hj3 hv3 => ?_⟩
                  · show l.base + off * te.size + ((els.drop off).take len ++ ys).length * te.size ≤ _
                    rw [over_size hfit, hallL, Nat.add_mul]; omega
                  · have hjl : j' < te.size := by rw [← (sized_at hall hi3).1]; exact (List.getElem?_eq_some_iff.1 hj3).1
                    exact (hrowN (i' * te.size + j') x v (by rw [flat_get hall hi3 hjl]; exact hj3) (by rw [← Nat.add_assoc]; exact hv3)).trans hT2)
                (fun li hli => by cases hli; exact .inl rfl) (fun b hb => by have := S.bound b hb; rw [W.size]; exact this)
              refine OpGood.value (C' := C.turn id (ver + 1) (some ⟨l.blk, l.base + off * te.size, te.size⟩) C.own (C.w.setRow l.blk (over row (l.base + off * te.size + len * te.size) news))) (u := .slice (some ⟨l.blk, l.base + off * te.size, none⟩) (len + ys.length) cap) (exec_append hop (by rw [hxu, hyu]; exact hrun)) Tr S' ?_
              refine VR.ob id (ver + 1) te.size 0 (len + ys.length) _ cap hroom (by omega) (by rw [hvv]; exact Nat.le_refl _) fun _ => ⟨_, _, et, hloc, rfl, fun _ => by simp, setRow_heap C.w l.blk row _ et (0, 0) hrow, ?_⟩
              show l.base + off * te.size + (0 + cap) * te.size ≤ _
              rw [over_size hfit, Nat.zero_add]
              rw [Nat.add_mul] at hcs
              omega
          · -- there is none: elsewhere
            have hold := K.first (P := P) hsub
            rw [htl] at hold
            have h63 : len + ys.length ≤ (len + ys.length) * te.bytes := Nat.le_mul_of_pos_right _ FT.pos
            have hrm : room = 140737488355328 := rfl
            have hrun := run_append_grow_src (P := P) C.w ty tu o.type e i zv hsl hi hiz (some bd) len cap olds (by rw [hisz]; exact hold) _ ys.length news (by rw [hisz]; exact hsrc) (by omega) (by omega) (by rw [hib]; exact growslice_fits (by omega) (by rw [← hrm]; exact hb1))
            have hge := grownCap_ge C.w (len + ys.length) cap e
            have T1 := Trans.same (drew_same C.w)
            have S1 := S.same (drew_same C.w)
            obtain ⟨hrowN, hsize⟩ := grown_row (C := C.at_ C.w.drew) (Z := Builtin.zeroCells zv.cells (grownCap C.w (len + ys.length) cap e - (len + ys.length))) hsub hb2 K.len (sub_flat_vr K T1) H.len (sub_flat_vr H T1)
            have hZ : (Builtin.zeroCells zv.cells (grownCap C.w (len + ys.length) cap e - (len + ys.length))).size = (grownCap C.w (len + ys.length) cap e - (len + ys.length)) * te.size := by simp [Builtin.zeroCells, hzc]
            rw [hZ, htl, ← Nat.add_mul] at hsize
            have hcsz : grownCap C.w (len + ys.length) cap e * te.size ≤ ((olds ++ news).toArray ++ Builtin.zeroCells zv.cells (grownCap C.w (len + ys.length) cap e - (len + ys.length))).size := by
              rw [hsize]; exact Nat.mul_le_mul_right _ (by omega)
            have hlsz : (len + ys.length) * te.size ≤ ((olds ++ news).toArray ++ Builtin.zeroCells zv.cells (grownCap C.w (len + ys.length) cap e - (len + ys.length))).size := by
              rw [hsize]; exact Nat.mul_le_mul_right _ (by omega)
            generalize hRW : (olds ++ news).toArray ++ Builtin.zeroCells zv.cells (grownCap C.w (len + ys.length) cap e - (len + ys.length)) = RW at hrun hrowN hcsz hlsz
            have hnew : (C.w.drew.alloc (.cells RW e)).heap[C.w.heap.size]? = some (.cells RW e (0, 0)) := alloc_new C.w.drew _
            have hsz2 : (C.w.drew.alloc (.cells RW e)).heap.size = C.w.heap.size + 1 := alloc_size C.w.drew _
            have hst2 : Stays (C.at_ C.w.drew).w (C.w.drew.alloc (.cells RW e)) l.blk := Stays.alloc C.w.drew _ l.blk
            have hl1 : (C.at_ C.w.drew).loc id = some l := hl
            have hbn : ∀ b, C.own b → b < C.w.heap.size := S.bound
            cases ro with
            | true =>
              simp only [cond_true] at hv
              cases hbe : Nat.beq (off + len) els.length with
              | false => rw [hbe] at hv; cases hv
              | true =>
                rw [hbe] at hv
                simp only [cond_true, Option.some.injEq, Prod.mk.injEq] at hv
                obtain ⟨rfl, rfl⟩ := hv
                have hor : (C.w.drew.alloc (.cells RW e)).heap[l.blk]? = some (.cells row et (0, 0)) := (alloc_old C.w.drew _ l.blk hlt).trans hrow
                obtain ⟨Tr, S'⟩ := S1.rest (w := C.w.drew.alloc (.cells RW e)) (h' := h.put id ⟨.arr te.size els true, ver, st + 1⟩) hl1 hown hst2 (fun r t' hrt => ⟨r, (alloc_old C.w.drew _ l.blk hlt).trans hrt, rfl⟩) (fun j hj => by rw [Heap.get_put, if_neg hj]) (by rw [verOf_put, if_pos rfl, hvo]) hfr (fun Tr => by
                  rw [Heap.get_put, if_pos rfl]
                  exact ⟨hver1, l, hl, hlz, fun hh => (by cases hh), fun _ hc => hc.2 rfl, hsd, _, et, hor, hlen, fun i' j' e3 x v hi3 hj3 hv3 => ((hr i' j' e3 x v hi3 hj3 hv3).trans T1).trans Tr⟩)
                refine OpGood.value (C' := (C.at_ C.w.drew).rest l.blk (C.w.drew.alloc (.cells RW e))) (u := .slice (some ⟨C.w.heap.size, 0, none⟩) (len + ys.length) (grownCap C.w (len + ys.length) cap e)) (exec_append hop (by rw [hxu, hyu]; exact hrun)) (T1.trans Tr) S' ?_
                have hv3 := VR.sl (C := (C.at_ C.w.drew).rest l.blk (C.w.drew.alloc (.cells RW e))) ((els.drop off).take len ++ ys) .non (some ⟨C.w.heap.size, 0, none⟩) (grownCap C.w (len + ys.length) cap e) C.w.heap.size 0 te.size (by rw [hallL]; exact hge) (by simp [TagOk]) (fun _ => ⟨rfl, fun hc => by have := hbn _ hc.1; omega, by show _ < (C.w.drew.alloc (.cells RW e)).heap.size; rw [hsz2]; omega⟩) hall (fun i' e3 j' x hi3 hj3 => ?_) (fun i' e3 j' x v hi3 hj3 hc3 => ?_)
                · rw [hallL] at hv3; exact hv3
                · have hil : i' < len + ys.length := by rw [← hallL]; exact (List.getElem?_eq_some_iff.1 hi3).1
                  have hjl : j' < te.size := by rw [← (sized_at hall hi3).1]; exact (List.getElem?_eq_some_iff.1 hj3).1
                  have hm : i' * te.size + te.size ≤ (len + ys.length) * te.size := by rw [← Nat.succ_mul]; exact Nat.mul_le_mul_right _ hil
                  rw [cell?_at]
                  show (match (C.w.drew.alloc (.cells RW e)).heap[C.w.heap.size]? with | some (.cells c _ _) => c[0 + i' * te.size + j']? | _ => none).isSome = true
                  rw [hnew]
                  simp only
                  rw [Array.getElem?_eq_getElem (by omega)]; rfl
                · rw [cell?_at] at hc3
                  have hc4 : (match (C.w.drew.alloc (.cells RW e)).heap[C.w.heap.size]? with | some (.cells c _ _) => c[0 + i' * te.size + j']? | _ => none) = some v := hc3
                  rw [hnew] at hc4
                  exact (hrowN i' j' e3 x v hi3 hj3 hc4).trans Tr
            | false =>
              simp only [cond_false, Option.some.injEq, Prod.mk.injEq] at hv
              obtain ⟨rfl, rfl⟩ := hv
              generalize hC' : (C.at_ C.w.drew).turn id (ver + 1) (some ⟨C.w.heap.size, 0, te.size⟩) (fun b => (C.own b ∧ b ≠ l.blk) ∨ b = C.w.heap.size) (C.w.drew.alloc (.cells RW e)) = C'
              have hloc : C'.loc id = some ⟨C.w.heap.size, 0, te.size⟩ := by
                rw [← hC']; show (if id = id then _ else _) = _; rw [if_pos rfl]
              have hvv : C'.ver id = ver + 1 := by
                rw [← hC']; show (if id = id then ver + 1 else _) = _; rw [if_pos rfl]
              have hw' : C'.w = C.w.drew.alloc (.cells RW e) := by rw [← hC']; rfl
              have hT2 : Trans (C.at_ C.w.drew) C' := by
                rw [← hC']
                exact Trans.turn hl1 hown (by show C.ver id < _; omega) hver0 hst2 (fun b hb hh => hh.elim (fun h => h.1) (fun e => by subst e; exact absurd hb (Nat.lt_irrefl _))) (fun j lj hj hlj => ⟨fun e => S.apart id j l lj (Ne.symm hj) hl hlj hown e.symm, S.loc_lt hlj⟩)
              obtain ⟨Tr, S'⟩ := S1.turn (h' := h.put id ⟨.arr te.size ((els.drop off).take len ++ ys) false, ver + 1, st + 1⟩) (id := id) (v := ver + 1) (l' := some ⟨C.w.heap.size, 0, te.size⟩) (own' := fun b => (C.own b ∧ b ≠ l.blk) ∨ b = C.w.heap.size) (w := C.w.drew.alloc (.cells RW e)) hl1 hown (by show C.ver id < _; omega) hver0 hst2
                (fun b hb => ⟨fun hh => hh.elim (fun h => h.1) (fun e => by subst e; exact absurd hb (Nat.lt_irrefl _)), fun hne ho => .inl ⟨ho, hne⟩⟩) (fun j hj => by rw [Heap.get_put, if_neg hj]) (by rw [verOf_put, if_pos rfl]) hfr
                (by
                  rw [Heap.get_put, if_pos rfl, hC']
                  refine ⟨by omega, _, hloc, rfl, fun _ => ?_, fun hh => (by cases hh), hall, RW, e, by rw [hw']; exact hnew, ?_, fun i' j' e3 x v hi3 hj3 hv3 => ?_⟩
                  · rw [← hC']; exact .inr rfl
                  · show 0 + ((els.drop off).take len ++ ys).length * te.size ≤ _
                    rw [hallL, Nat.zero_add]; exact hlsz
                  · exact (hrowN i' j' e3 x v hi3 hj3 hv3).trans hT2)
                (fun li hli => by cases hli; exact .inr (Nat.le_refl _)) (fun b hb => by
                  rw [hsz2]
                  rcases hb with hb | hb
                  · have := hbn b hb.1; omega
                  · omega)
              rw [hC'] at S' Tr
              refine OpGood.value (C' := C') (u := .slice (some ⟨C.w.heap.size, 0, none⟩) (len + ys.length) (grownCap C.w (len + ys.length) cap e)) (exec_append hop (by rw [hxu, hyu, hw']; exact hrun)) (T1.trans Tr) S' ?_
              refine VR.ob id (ver + 1) te.size 0 (len + ys.length) _ _ hge (by omega) (by rw [hvv]; exact Nat.le_refl _) fun _ => ⟨_, RW, e, hloc, rfl, fun _ => by simp, by rw [hw']; exact hnew, ?_⟩
              show 0 + (0 + grownCap C.w (len + ys.length) cap e) * te.size ≤ _
              rw [Nat.zero_add, Nat.zero_add]
              exact hcsz
      · cases hv
    · cases hv
end
end Go.AM
