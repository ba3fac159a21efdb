/- What is owned is made inline. -/
import Derived.Test.YtlkhbglofkfioaaGreatB6
set_option linter.unusedVariables false
set_option linter.unusedSimpArgs false
namespace Go.AM
open Go
theorem VR.agg_of {C C' : Ctx} {cs cs' : List AV} (hl : cs'.length = cs.length) (H : ∀ (i : Nat) (x' : AV), cs'[i]? = some x' → ∃ x, cs[i]? = some x ∧ ∀ u, VR C x u → VR C' x' u) {u : Value} (h : VR C (.agg cs) u) : VR C' (.agg cs') u := by
  cases h with
  | agg _ vs hs hv =>
    refine .agg cs' vs (hs.trans hl.symm) fun i x' v hx hu => ?_
    obtain ⟨x, h1, h2⟩ := H i x' hx
    exact h2 v (hv i x v h1 hu)
theorem VR.tup_of {C C' : Ctx} {cs cs' : List AV} (hl : cs'.length = cs.length) (H : ∀ (i : Nat) (x' : AV), cs'[i]? = some x' → ∃ x, cs[i]? = some x ∧ ∀ u, VR C x u → VR C' x' u) {u : Value} (h : VR C (.tup cs) u) : VR C' (.tup cs') u := by
  cases h with
  | tup _ vs hs hv =>
    refine .tup cs' vs (hs.trans hl.symm) fun i x' v hx hu => ?_
    obtain ⟨x, h1, h2⟩ := H i x' hx
    exact h2 v (hv i x v h1 hu)
theorem cells_single {x : AV} (hx : ∀ cs, x ≠ .agg cs) : x.cells = [x] := by
  cases x <;> first | rfl | exact absurd rfl (hx _)
theorem Turned.single {C C' : Ctx} {x x' : AV} (h1 : ∀ cs, x ≠ .agg cs) (h2 : ∀ cs, x' ≠ .agg cs) (hv : ∀ u, VR C x u → VR C' x' u) (hs : x.scalar = true → x'.scalar = true) : Turned C x C' x' := by
  refine ⟨hv, by rw [cells_single h1, cells_single h2]; rfl, fun h => ?_, fun j y hj => ?_⟩
  · rw [cells_single h1] at h
    rw [cells_single h2]
    simp only [scalars, List.all_cons, List.all_nil, Bool.and_true] at h ⊢
    exact hs h
  · rw [cells_single h2] at hj
    rw [cells_single h1]
    cases j with
    | zero => simp at hj; subst hj; exact ⟨x, rfl, hv⟩
    | succ j => simp at hj
theorem sized_turned {C C' : Ctx} {l l' : List AV} {sz : Nat} (hl : l'.length = l.length) (H : ∀ (i : Nat) (x' : AV), l'[i]? = some x' → ∃ x, l[i]? = some x ∧ Turned C x C' x' ∧ (x.scalar = true → x'.scalar = true)) (hs : sized sz l = true) : sized sz l' = true := by
  unfold sized at *
  rw [List.all_eq_true] at *
  intro e he
  obtain ⟨i, hi, rfl⟩ := List.getElem_of_mem he
  obtain ⟨x, h1, h2, _⟩ := H i l'[i] (List.getElem?_eq_getElem hi)
  have h3 := hs x (List.mem_of_getElem? h1)
  simp only [Bool.and_eq_true] at h3 ⊢
  refine ⟨?_, h2.sc h3.2⟩
  rw [h2.len]; exact h3.1
theorem freeze_ok : ∀ (d : Nat) (x : AV) (C : Ctx) (h : Heap), Sim C h → FzGood C x (freeze d x h).1 (freeze d x h).2
  | 0, x, C, h, S => ⟨C, rfl, Trans.refl C, S, Turned.refl C x, fun h => h⟩
  | d + 1, x, C, h, S => by
    have same : FzGood C x x h := ⟨C, rfl, Trans.refl C, S, Turned.refl C x, fun h => h⟩
    have many := fzMany_ok (fun x C h S => freeze_ok d x C h S)
    cases x with
    | agg cs =>
      have e : freeze (d + 1) (.agg cs) h = (.agg (fzMany d cs h).1, (fzMany d cs h).2) := rfl
      rw [e]
      obtain ⟨C', hw, T, S', hl, H⟩ := many cs C h S
      refine ⟨C', hw, T, S', ⟨fun u hu => hu.agg_of hl fun i x' hx => ?_, hl, fun hs => ?_, fun j y hj => ?_⟩, fun h => by cases h⟩
      · obtain ⟨y, h1, h2, _⟩ := H i x' hx
        exact ⟨y, h1, h2.vr⟩
      · simp only [AV.cells, scalars] at hs ⊢
        rw [List.all_eq_true] at hs ⊢
        intro e he
        obtain ⟨i, hi, rfl⟩ := List.getElem_of_mem he
        obtain ⟨y, h1, _, h3⟩ := H i _ (List.getElem?_eq_getElem hi)
        exact h3 (hs y (List.mem_of_getElem? h1))
      · obtain ⟨z, h1, h2, _⟩ := H j y hj
        exact ⟨z, h1, h2.vr⟩
    | tup cs =>
      have e : freeze (d + 1) (.tup cs) h = (.tup (fzMany d cs h).1, (fzMany d cs h).2) := rfl
      rw [e]
      obtain ⟨C', hw, T, S', hl, H⟩ := many cs C h S
      refine ⟨C', hw, T, S', Turned.single (fun _ h => by cases h) (fun _ h => by cases h) (fun u hu => hu.tup_of hl fun i x' hx => ?_) (fun h => by cases h), fun h => by cases h⟩
      obtain ⟨y, h1, h2, _⟩ := H i x' hx
      exact ⟨y, h1, h2.vr⟩
    | ob id ver sz0 off len =>
      have e : freeze (d + 1) (.ob id ver sz0 off len) h = (match arrAt h id ver with
        | some (_, els, false, st) => bif Nat.ble (off + len) els.length then (.sl (fzMany d ((els.drop off).take len) (h.put id ⟨.dead, ver + 1, st + 1⟩)).1 .non, (fzMany d ((els.drop off).take len) (h.put id ⟨.dead, ver + 1, st + 1⟩)).2) else (.ob id ver sz0 off len, h)
        | _ => (.ob id ver sz0 off len, h)) := rfl
      rw [e]
      split
      · rename_i sz els st hg
        cases hb : Nat.ble (off + len) els.length with
        | false => exact same
        | true =>
          have hfit := Nat.le_of_ble_eq_true hb
          simp only [cond_true]
          obtain ⟨hver, hver1, l, row, et, hl, hlz, how, _, hsd, hrow, hlen, hr⟩ := S.arrAt hg
          have hown := how rfl
          obtain ⟨T1, S1⟩ := S.turn (h' := h.put id ⟨.dead, ver + 1, st + 1⟩) (id := id) (v := ver + 1) (l' := none) (own' := fun b => C.own b ∧ b ≠ l.blk) (w := C.w) hl hown (by omega) (by omega) (Stays.same ⟨rfl, rfl, rfl, rfl⟩ _)
            (fun b hb => ⟨fun h => h.1, fun hne ho => ⟨ho, hne⟩⟩) (fun j hj => by rw [Heap.get_put, if_neg hj]) (by rw [verOf_put, if_pos rfl]) (fun j hj => by
              rw [Heap.get_put, if_neg (fun e => by subst e; have := S.fresh _ hj; rw [arrAt_get hg] at this; cases this)]
              exact S.fresh j hj) (by
              rw [Heap.get_put, if_pos rfl]
              refine ⟨?_, by omega⟩
              show (if id = id then none else _) = none
              rw [if_pos rfl]) (fun li hli => by cases hli) (fun b hb => S.bound b hb.1)
          obtain ⟨C2, hw2, T2, S2, hl2, H⟩ := many ((els.drop off).take len) _ _ S1
          have hL : ((els.drop off).take len).length = len := by simp; omega
          have hsub : sized sz ((els.drop off).take len) = true := sized_sub hsd fun e he => List.mem_of_mem_drop (List.mem_of_mem_take he)
          have hsz' := sized_turned hl2 H hsub
          have hw : C2.w = C.w := hw2
          refine ⟨C2, hw, T1.trans T2, S2, Turned.single (fun _ h => by cases h) (fun _ h => by cases h) (fun u hu => ?_) (fun _ => rfl), fun _ => rfl⟩
          obtain ⟨ad, cap, hu', hcap, _, _, hh⟩ := VR.ob_inv hu
          obtain ⟨l', row', e', hl', hlz', had, hrow', hroom⟩ := hh hver
          rw [hl] at hl'
          cases hl'
          rw [hrow] at hrow'
          cases hrow'
          obtain rfl : sz0 = sz := hlz'.symm.trans hlz
          have hn : (fzMany d ((els.drop off).take len) (h.put id ⟨.dead, ver + 1, st + 1⟩)).1.length = len := by rw [hl2, hL]
          have get : ∀ (i : Nat) (e : AV), ((els.drop off).take len)[i]? = some e → els[off + i]? = some e := by
            intro i e he
            rw [List.getElem?_take] at he
            split at he
            · rwa [List.getElem?_drop] at he
            · cases he
          have := VR.sl (C := C2) (fzMany d ((els.drop off).take len) (h.put id ⟨.dead, ver + 1, st + 1⟩)).1 .non (some ad) cap l.blk (l.base + off * sz0) sz0 (by omega) (by simp [TagOk]) (fun hne => ?_) hsz' (fun i e' j x' hi hj => ?_) (fun i e' j x' v hi hj hv => ?_)
          · rw [hn] at this
            rw [hu']
            exact this
          · have hpos : 0 < len := by
              rcases Nat.eq_zero_or_pos len with h0 | h0
              · exfalso; apply hne; apply List.eq_nil_of_length_eq_zero; omega
              · exact h0
            have hb := S.bound _ hown
            refine ⟨by rw [had (by omega)], ?_, by rw [hw]; exact hb⟩
            exact (T2.keep l.blk hb (fun h => h.2 rfl)).2
          · obtain ⟨x, h1, h2, _⟩ := H i e' hi
            obtain ⟨y, h3, _⟩ := h2.cell j x' hj
            obtain ⟨v, hv, _⟩ := row_cells hsd hrow hlen hr (get i x h1) j y h3
            rw [hw]
            rw [show l.base + off * sz0 + i * sz0 + j = l.base + (off + i) * sz0 + j by rw [Nat.add_mul]; omega, hv]; rfl
          · obtain ⟨x, h1, h2, _⟩ := H i e' hi
            obtain ⟨y, h3, h4⟩ := h2.cell j x' hj
            obtain ⟨v', hv', hvr⟩ := row_cells hsd hrow hlen hr (get i x h1) j y h3
            rw [hw] at hv
            rw [show l.base + off * sz0 + i * sz0 + j = l.base + (off + i) * sz0 + j by rw [Nat.add_mul]; omega, hv'] at hv
            cases hv
            exact h4 v (hvr.trans T1)
      · exact same
    | _ => exact same
end Go.AM
