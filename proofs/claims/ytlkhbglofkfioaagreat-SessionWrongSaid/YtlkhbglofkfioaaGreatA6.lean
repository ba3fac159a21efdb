/- '==', records and literals. -/
import Derived.Test.YtlkhbglofkfioaaGreatA5
import Derived.Laws.Cover3
import Derived.Laws.Pointers
import Derived.Laws.StructEq
set_option linter.unusedVariables false
set_option linter.unusedSimpArgs false
namespace Go.AM
open Go
section
variable {P : Program} {T : Types} {o : Oper} {a : Act} {C : Ctx} {h : Heap} {t : Tmps} {n : Nat}

theorem run_eqB (neg : Bool) {ty : TypeId} {x y : Operand} {u v : Value} {r : Bool} {w : World} (hop : o.op = .binOp (if neg then .neq else .eql) ty x y ty) (hu : a.eval x = u) (hv : a.eval y = v)
    (hg : ∀ op, (eqGuard op ty x y u v).run P w = .ok () w) (hb : ∀ op, op = .eql ∨ op = .neq → (Go.binOp op ty u v).run P w = ((Op.equal ty u v).run P w).andThen fun r w' => .ok (.bool (if op = .neq then !r else r)) w') (he : (Op.equal ty u v).run P w = .ok r w) :
    (execOp a.eval o).run P w = .ok (.value (.bool (bif neg then !r else r))) w := by
  cases neg
  · simp only [Bool.false_eq_true, if_false] at hop
    simp only [execOp, hop, hu, hv]
    simp [hg, hb .eql (.inl rfl), he]
  · simp only [if_true] at hop
    simp only [execOp, hop, hu, hv]
    simp [hg, hb .neq (.inr rfl), he]
theorem binOp_eq_plain {ty : TypeId} {u v : Value} (P : Program) (w : World) (h : ∀ op, op = .eql ∨ op = .neq → Go.binOp op ty u v = (match op with | .eql => (do pure (.bool (← Op.equal ty u v)) : Sem Value) | _ => (do pure (.bool (!(← Op.equal ty u v))) : Sem Value))) :
    ∀ op, op = .eql ∨ op = .neq → (Go.binOp op ty u v).run P w = ((Op.equal ty u v).run P w).andThen fun r w' => .ok (.bool (if op = .neq then !r else r)) w' := by
  intro op ho
  rw [h op ho]
  rcases ho with rfl | rfl <;> simp
theorem op_eq {ty ty' : TypeId} {x y : Operand} {x' y' : AOpd} {ti : TI} {k : EqK} {neg : Bool} (F : Facts P T) (hop : o.op = .binOp (if neg then .neq else .eql) ty x y ty') (ht : T ty = some ti) (hk : eqKind ti = some k) (hx : trOpd x = some x') (hy : trOpd y = some y') (S : Sim C h) (hT : TR C t a n) {r : Bool} (hr : eqOp k (ev t x') (ev t y') = some r) :
    OpGood P o a C h (.bool (bif neg then !r else r)) := by
  have hx' := ev_ok hT hx
  have hy' := ev_ok hT hy
  obtain ⟨d, hd, hdb⟩ := F.und ht
  suffices hs : ∃ u v, a.eval x = u ∧ a.eval y = v ∧ (∀ op, (eqGuard op ty x y u v).run P C.w = .ok () C.w) ∧ (∀ op, op = .eql ∨ op = .neq → (Go.binOp op ty u v).run P C.w = ((Op.equal ty u v).run P C.w).andThen fun r w' => .ok (.bool (if op = .neq then !r else r)) w') ∧ (Op.equal ty u v).run P C.w = .ok r C.w by
    obtain ⟨u, v, hu, hv, hg, hb, he⟩ := hs
    refine OpGood.same (u := .bool (bif neg then !r else r)) ?_ S (.bool _)
    cases neg
    · simp only [Bool.false_eq_true, if_false] at hop
      simp only [execOp, hop, hu, hv]
      simp [hg, hb .eql (.inl rfl), he]
    · simp only [if_true] at hop
      simp only [execOp, hop, hu, hv]
      simp [hg, hb .neq (.inr rfl), he]
  have hg2 : ∀ u v : Value, (∀ op, eqGuard op ty x y u v = pure ()) → ∀ op, (eqGuard op ty x y u v).run P C.w = .ok () C.w := fun u v h op => by rw [h op]; rfl
  cases k with
  | bool =>
    have hkd : ti.kind = .bool := by unfold eqKind at hk; split at hk <;> simp_all
    rw [hkd] at hdb
    obtain ⟨rfl, _⟩ := desc_bool hdb
    unfold eqOp at hr
    simp only at hr
    split at hr
    · rename_i b c hb hc
      rw [hb] at hx'
      rw [hc] at hy'
      cases hr
      exact ⟨_, _, VR.bool_inv hx', VR.bool_inv hy', hg2 _ _ (fun op => eqGuard_at_bool ..), binOp_eq_plain P C.w (fun op ho => by rcases ho with rfl | rfl <;> rfl), run_equal_bool C.w ty b c hd⟩
    · cases hr
  | ptr =>
    have hkd : ti.kind = .ptr := by unfold eqKind at hk; split at hk <;> simp_all
    rw [hkd] at hdb
    obtain ⟨⟨e, rfl⟩, _⟩ := desc_ptr hdb
    have key : ∀ (p q : Option Addr), a.eval x = .pointer p → a.eval y = .pointer q → (p = none ∨ q = none) → r = (p.isNone && q.isNone) → ∃ u v, a.eval x = u ∧ a.eval y = v ∧ (∀ op, (eqGuard op ty x y u v).run P C.w = .ok () C.w) ∧ (∀ op, op = .eql ∨ op = .neq → (Go.binOp op ty u v).run P C.w = ((Op.equal ty u v).run P C.w).andThen fun r w' => .ok (.bool (if op = .neq then !r else r)) w') ∧ (Op.equal ty u v).run P C.w = .ok r C.w := by
      intro p q hp hq hpq hrr
      refine ⟨_, _, hp, hq, hg2 _ _ (fun op => eqGuard_at_pointer ..), binOp_eq_plain P C.w (fun op ho => by rcases ho with rfl | rfl <;> rfl), ?_⟩
      subst hrr
      show (Op.equalIn (9999 + 1) ty (.pointer p) (.pointer q)).run P C.w = _
      cases p with
      | none =>
        rw [Op.equalIn]
        simp only [Sem.run_bind, run_underlying hd, Result.andThen_ok]
        cases q <;> rfl
      | some p =>
        cases q with
        | none =>
          rw [Op.equalIn]
          simp only [Sem.run_bind, run_underlying hd, Result.andThen_ok]
          rfl
        | some q => simp at hpq
    have inv : ∀ {v : AV} {u : Value}, VR C v u → (v = .nilp → u = .pointer none) ∧ ((∃ i f, v = .ptr i f) ∨ (∃ i f g e, v = .eptr i f g e) → ∃ ad, u = .pointer (some ad)) := by
      intro v u hv
      refine ⟨fun e => ?_, fun e => ?_⟩
      · subst e; cases hv; rfl
      · rcases e with ⟨i, f, rfl⟩ | ⟨i, f, g, e, rfl⟩
        · obtain ⟨l, hu, _⟩ := VR.ptr_inv hv; exact ⟨_, hu⟩
        · obtain ⟨ad, hu, _⟩ := VR.eptr_inv hv; exact ⟨_, hu⟩
    unfold eqOp at hr
    simp only at hr
    split at hr
    · rename_i hb hc
      cases hr
      exact key none none ((inv hx').1 hb) ((inv hy').1 hc) (.inl rfl) rfl
    · rename_i i f hb hc
      cases hr
      obtain ⟨ad, hu⟩ := (inv hx').2 (.inl ⟨_, _, hb⟩)
      exact key _ none hu ((inv hy').1 hc) (.inr rfl) rfl
    · rename_i i f g e hb hc
      cases hr
      obtain ⟨ad, hu⟩ := (inv hx').2 (.inr ⟨_, _, _, _, hb⟩)
      exact key _ none hu ((inv hy').1 hc) (.inr rfl) rfl
    · rename_i i f hb hc
      cases hr
      obtain ⟨ad, hu⟩ := (inv hy').2 (.inl ⟨_, _, hc⟩)
      exact key none _ ((inv hx').1 hb) hu (.inl rfl) rfl
    · rename_i i f g e hb hc
      cases hr
      obtain ⟨ad, hu⟩ := (inv hy').2 (.inr ⟨_, _, _, _, hc⟩)
      exact key none _ ((inv hx').1 hb) hu (.inl rfl) rfl
    · cases hr
  | slice =>
    have hkd : ∃ e, ti.kind = .slice e := by unfold eqKind at hk; split at hk <;> simp_all
    obtain ⟨e, hkd⟩ := hkd
    have hsl := F.slice ht hkd
    have nil_inv : ∀ {els : List AV} {u : Value}, VR C (.sl els .nil) u → u = .slice none 0 0 := by
      intro els u hv
      obtain ⟨ad, c, _, _, _, hu, _, htg, _⟩ := VR.sl_inv hv
      obtain ⟨h1, h2, h3⟩ := htg
      rw [hu, h1, h2, h3]
    have key : ∀ (p : Option Addr) (l c : Nat), a.eval x = .slice p l c → a.eval y = .slice none 0 0 → r = p.isNone → ∃ u v, a.eval x = u ∧ a.eval y = v ∧ (∀ op, (eqGuard op ty x y u v).run P C.w = .ok () C.w) ∧ (∀ op, op = .eql ∨ op = .neq → (Go.binOp op ty u v).run P C.w = ((Op.equal ty u v).run P C.w).andThen fun r w' => .ok (.bool (if op = .neq then !r else r)) w') ∧ (Op.equal ty u v).run P C.w = .ok r C.w := by
      intro p l c hp hq hrr
      subst hrr
      exact ⟨_, _, hp, hq, hg2 _ _ (fun op => eqGuard_at_slice ..), binOp_eq_plain P C.w (fun op ho => by rcases ho with rfl | rfl <;> rfl), run_equal_slice_nil C.w ty e p l c hsl⟩
    unfold eqOp at hr
    simp only at hr
    split at hr
    · rename_i els tg els' hb hc
      rw [hc] at hy'
      rw [hb] at hx'
      obtain ⟨ad, c, _, _, _, hu, _, htg, _⟩ := VR.sl_inv hx'
      refine key ad els.length c hu (nil_inv hy') ?_
      cases tg with
      | nil => cases hr; rw [htg.1]; rfl
      | full => cases hr; have := htg.1; cases ad <;> simp_all
      | non => cases hr; have h1 : ad ≠ none := htg; cases ad <;> simp_all
    · rename_i els' hb hc
      rw [hc] at hy'
      rw [hb] at hx'
      obtain ⟨ad, c, hu, _⟩ := VR.ob_inv hx'
      cases hr
      exact key (some ad) _ c hu (nil_inv hy') rfl
    · cases hr
  | agg =>
    have hok : ti.eqOk = true := by
      unfold eqKind at hk
      split at hk <;> simp_all
    unfold eqOp at hr
    simp only at hr
    split at hr
    · rename_i cs ds hb hc
      rw [hb] at hx'
      rw [hc] at hy'
      obtain ⟨us, hu, _⟩ := VR.agg_inv hx'
      obtain ⟨vs, hv, _⟩ := VR.agg_inv hy'
      obtain ⟨h1, h2, _⟩ := F.eq ty ti ht hok C cs ds us vs r hr (hu ▸ hx') (hv ▸ hy')
      refine ⟨_, _, hu, hv, fun op => ?_, binOp_eq_plain P C.w (fun op ho => by rcases ho with rfl | rfl <;> rfl), h1 C.w⟩
      unfold eqGuard
      cases op <;> simp [h2]
    · cases hr

/-! ### records -/
theorem splice_length {cs : List AV} {off : Nat} {xs : List AV} (h : off + xs.length ≤ cs.length) : (splice cs off xs).length = cs.length := by simp [splice]; omega
theorem splice_get {cs : List AV} {off : Nat} {xs : List AV} (h : off + xs.length ≤ cs.length) (i : Nat) : (splice cs off xs)[i]? = if off ≤ i ∧ i < off + xs.length then xs[i - off]? else cs[i]? := by
  unfold splice
  rw [List.append_assoc, List.getElem?_append, List.length_take, List.getElem?_append, List.getElem?_drop]
  have hm : min off cs.length = off := by omega
  rw [hm]
  by_cases h1 : i < off
  · rw [if_pos h1, if_neg (by omega), List.getElem?_take, if_pos h1]
  · rw [if_neg h1]
    by_cases h2 : i < off + xs.length
    · rw [if_pos (by omega), if_pos (by omega)]
    · rw [if_neg (by omega), if_neg (by omega)]
      congr 1
      omega
theorem foldl_set (off : Nat) : ∀ (vs : List Value) (k : Nat) (cells : Array Value), ((vs.zipIdx k).foldl (fun cs (p : Value × Nat) => cs.setIfInBounds (off + p.2) p.1) cells).size = cells.size ∧
    ∀ i, ((vs.zipIdx k).foldl (fun cs (p : Value × Nat) => cs.setIfInBounds (off + p.2) p.1) cells)[i]? = if off + k ≤ i ∧ i < off + k + vs.length ∧ i < cells.size then vs[i - (off + k)]? else cells[i]?
  | [], k, cells => ⟨rfl, fun i => by rw [if_neg (by simp; omega)]; rfl⟩
  | v :: vs, k, cells => by
    obtain ⟨h1, h2⟩ := foldl_set off vs (k + 1) (cells.setIfInBounds (off + k) v)
    simp only [List.zipIdx_cons, List.foldl_cons]
    refine ⟨by rw [h1]; simp, fun i => ?_⟩
    rw [h2 i]
    simp only [Array.size_setIfInBounds, List.length_cons]
    by_cases e : i = off + k
    · subst e
      have h3 : ¬ (off + (k + 1) ≤ off + k ∧ off + k < off + (k + 1) + vs.length ∧ off + k < cells.size) := by omega
      rw [if_neg h3]
      by_cases hb : off + k < cells.size
      · rw [Array.getElem?_setIfInBounds_self_of_lt hb, if_pos (by omega)]; simp
      · rw [Array.getElem?_eq_none (by simp; omega), if_neg (by omega), Array.getElem?_eq_none (by omega)]
    · rw [Array.getElem?_setIfInBounds_ne (fun h => e h.symm)]
      by_cases h3 : off + (k + 1) ≤ i ∧ i < off + (k + 1) + vs.length ∧ i < cells.size
      · rw [if_pos h3, if_pos (by omega), show i - (off + k) = (i - (off + (k + 1))) + 1 by omega]; simp
      · rw [if_neg h3, if_neg (by omega)]
/-- A list of the model's values is told by a list of the abstract machine's. -/
def VRs (C : Ctx) (cs : List AV) (vs : Array Value) : Prop := vs.size = cs.length ∧ ∀ (i : Nat) (x : AV) (v : Value), cs[i]? = some x → vs[i]? = some v → VR C x v
theorem VR.cells {v : AV} {u : Value} (h : VR C v u) : VRs C v.cells u.cells := by
  have one : ∀ {x : AV} {w : Value}, x.cells = [x] → w.cells = #[w] → VR C x w → VRs C x.cells w.cells := by
    intro x w hx hw hv
    rw [hx, hw]
    refine ⟨rfl, fun i y z hy hz => ?_⟩
    cases i with
    | zero =>
      simp only [List.getElem?_cons_zero, Option.some.injEq] at hy
      have hz' : w = z := by simpa using hz
      subst hy; subst hz'; exact hv
    | succ i => simp at hy
  cases h with
  | agg cs vs hs hv => exact ⟨hs, hv⟩
  | int k n => exact one rfl rfl (.int k n)
  | bool b => exact one rfl rfl (.bool b)
  | wild k n => exact one rfl rfl (.wild k n)
  | str l s h => exact one rfl rfl (.str l s h)
  | nilp => exact one rfl rfl .nilp
  | ptr id off l h hb h0 => exact one rfl rfl (.ptr id off l h hb h0)
  | eptr id ver i off a hv hle h => exact one rfl rfl (.eptr id ver i off a hv hle h)
  | iptr e off b o hb hs hsc hc hv => exact one rfl rfl (.iptr e off b o hb hs hsc hc hv)
  | sl els tag a c b o sz hn ht ha hs hc hv => exact one rfl rfl (.sl els tag a c b o sz hn ht ha hs hc hv)
  | ob id ver sz off len a cap hl h1 hle h => exact one rfl rfl (.ob id ver sz off len a cap hl h1 hle h)
  | mp id l h h0 => exact one rfl rfl (.mp id l h h0)
  | mpn => exact one rfl rfl .mpn
  | fn f cap vs h hv => exact one rfl rfl (.fn f cap vs h hv)
  | nilf => exact one rfl rfl .nilf
  | tup cs vs h hv => exact one rfl rfl (.tup cs vs h hv)
theorem VRs.splice {cs : List AV} {vs : Array Value} {xs : List AV} {us : Array Value} {off : Nat} (h : VRs C cs vs) (k : VRs C xs us) (hle : off + xs.length ≤ cs.length) :
    VRs C (splice cs off xs) (us.zipIdx.foldl (fun cs (p : Value × Nat) => cs.setIfInBounds (off + p.2) p.1) vs) := by
  have hz : us.zipIdx.foldl (fun cs (p : Value × Nat) => cs.setIfInBounds (off + p.2) p.1) vs = (us.toList.zipIdx 0).foldl (fun cs (p : Value × Nat) => cs.setIfInBounds (off + p.2) p.1) vs := by
    rw [← Array.foldl_toList, Array.toList_zipIdx]
  rw [hz]
  obtain ⟨h1, h2⟩ := foldl_set off us.toList 0 vs
  have hul : us.toList.length = xs.length := by simpa using k.1
  refine ⟨by rw [h1, h.1, splice_length hle], fun i x v hx hv => ?_⟩
  rw [splice_get hle] at hx
  rw [h2 i] at hv
  by_cases hi : off ≤ i ∧ i < off + xs.length
  · rw [if_pos hi] at hx
    rw [if_pos (by rw [h.1]; omega)] at hv
    exact k.2 _ x v hx (by simpa using hv)
  · rw [if_neg hi] at hx
    rw [if_neg (by omega)] at hv
    exact h.2 i x v hx hv
theorem fill_ok {place place' : Nat → Option (Nat × Nat)} (hT : TR C t a n) : ∀ {ps : List (Nat × Operand)} {qs : List (Nat × Nat × AOpd)} {cs cs' : List AV} {vs : Array Value}, trParts place ps = some qs → (∀ i p, place i = some p → place' i = some p) → fill t qs cs = some cs' → VRs C cs vs →
    ∃ vs', Instr.fill place' vs (ps.map fun q => (q.1, a.eval q.2)) = some vs' ∧ VRs C cs' vs'
  | [], qs, cs, cs', vs, hp, hpl, hf, hv => by
    simp only [trParts, Option.some.injEq] at hp
    subst hp
    simp only [fill, Option.some.injEq] at hf
    subst hf
    exact ⟨vs, by simp [Instr.fill], hv⟩
  | (i, x) :: ps, qs, cs, cs', vs, hp, hpl, hf, hv => by
    simp only [trParts, Option.bind_eq_some_iff, Option.some.injEq] at hp
    obtain ⟨p, hp1, y, hy, ys, hys, rfl⟩ := hp
    simp only [fill] at hf
    cases hb : (Nat.beq (ev t y).cells.length p.2 && Nat.ble (p.1 + p.2) cs.length) with
    | false => rw [hb] at hf; cases hf
    | true =>
      rw [hb] at hf
      simp only [cond_true] at hf
      simp only [Bool.and_eq_true] at hb
      have hb1 := Nat.eq_of_beq_eq_true hb.1
      have hb2 := Nat.le_of_ble_eq_true hb.2
      have hxv := VR.cells (ev_ok hT hy)
      obtain ⟨vs', h1, h2⟩ := fill_ok hT hys hpl hf (hv.splice hxv (by omega))
      refine ⟨vs', ?_, h2⟩
      simp only [List.map_cons, Instr.fill, hpl i p hp1]
      rw [if_neg]
      · exact h1
      · have e1 := hxv.1
        have e2 := hv.1
        simp only [ne_eq, Bool.or_eq_true, decide_eq_true_eq]
        omega
theorem run_places (F : Facts P T) (w : World) : ∀ (l : List Field), (∀ f ∈ l, (T f.type).isSome = true) → (l.mapM (fun f => (do pure (f.offset, ← sizeOf f.type) : Sem (Nat × Nat)))).run P w = .ok (l.map fun f => (f.offset, ((T f.type).map TI.size).getD 0)) w
  | [], _ => by simp
  | f :: l, h => by
    obtain ⟨ti, hti⟩ := Option.isSome_iff_exists.1 (h f (List.mem_cons_self ..))
    have ih := run_places F w l (fun g hg => h g (List.mem_cons_of_mem _ hg))
    rw [List.mapM_cons]
    simp only [Sem.run_bind, F.size hti, Result.andThen_ok, Sem.run_pure, ih]
    simp [hti]
theorem op_build_struct {ty : TypeId} {ti : TI} {fs : List (Nat × TypeId)} {parts : Array (Nat × Operand)} {ps : List (Nat × Nat × AOpd)} (F : Facts P T) (hop : o.op = .build ty parts) (ht : T ty = some ti) (hk : ti.kind = .struct fs) (hall : fs.all (fun p => (T p.2).isSome) = true) (hps : trParts (fieldAt T fs) parts.toList = some ps) (S : Sim C h) (hT : TR C t a n)
    {cs : List AV} (hf : fill t ps ti.zero.cells = some cs) : OpGood P o a C h (.agg cs) := by
  obtain ⟨d, hd, hdb⟩ := F.und ht
  rw [hk] at hdb
  obtain ⟨gs, rfl, _, hgs⟩ := desc_struct hdb
  obtain ⟨zv, hz, hzv⟩ := F.zero ht
  have hall' : ∀ f ∈ gs.toList, (T f.type).isSome = true := by
    intro f hfm
    have := List.all_eq_true.1 hall (f.offset, f.type) (by rw [← hgs]; exact List.mem_map_of_mem hfm)
    simpa using this
  have hplaces := run_places F C.w gs.toList hall'
  have hmap : (gs.mapM (fun f => (do pure (f.offset, ← sizeOf f.type) : Sem (Nat × Nat)))).run P C.w = .ok (gs.toList.map fun f => (f.offset, ((T f.type).map TI.size).getD 0)).toArray C.w := by
    rw [Array.mapM_eq_mapM_toList]
    simp only [Sem.run_map, hplaces, Result.andThen_ok]
  have hpl : ∀ i p, fieldAt T fs i = some p → ((gs.toList.map fun f => (f.offset, ((T f.type).map TI.size).getD 0)).toArray)[i]? = some p := by
    intro i p hp
    simp only [fieldAt, Option.bind_eq_some_iff, Option.some.injEq] at hp
    obtain ⟨q, hq, tf, htf, rfl⟩ := hp
    rw [← hgs, List.getElem?_map, Option.map_eq_some_iff] at hq
    obtain ⟨g, hg1, hg2⟩ := hq
    subst hg2
    simp only [List.getElem?_toArray, List.getElem?_map, hg1, Option.map_some, Option.some.injEq, Prod.mk.injEq, true_and]
    simp only at htf
    simp [htf]
  obtain ⟨vs', h1, h2⟩ := fill_ok (place' := fun i => ((gs.toList.map fun f => (f.offset, ((T f.type).map TI.size).getD 0)).toArray)[i]?) hT hps hpl hf (VR.cells (hzv C))
  refine OpGood.same (u := .agg vs') ?_ S (.agg cs vs' h2.1 h2.2)
  have e2 : (parts.map (fun (q : Nat × Operand) => (q.1, a.eval q.2))).toList = parts.toList.map fun q => (q.1, a.eval q.2) := by simp
  simp only [execOp, hop, Instr.build, Sem.run_bind, Sem.run_pure, hz, Result.andThen_ok, run_underlying hd, hmap]
  have e3 : Instr.fill (fun i => ((gs.toList.map fun f => (f.offset, ((T f.type).map TI.size).getD 0)).toArray)[i]?) zv.cells (parts.map (fun (q : Nat × Operand) => (q.1, a.eval q.2))).toList = some vs' := by rw [e2]; exact h1
  simp only [e3]
  rfl
theorem op_build_arr {ty e : TypeId} {ti te : TI} {len : Nat} {parts : Array (Nat × Operand)} {ps : List (Nat × Nat × AOpd)} (F : Facts P T) (hop : o.op = .build ty parts) (ht : T ty = some ti) (hk : ti.kind = .arr len e) (hte : T e = some te) (hps : trParts (fun i => some (i * te.size, te.size)) parts.toList = some ps) (S : Sim C h) (hT : TR C t a n)
    {cs : List AV} (hf : fill t ps ti.zero.cells = some cs) : OpGood P o a C h (.agg cs) := by
  obtain ⟨d, hd, hdb⟩ := F.und ht
  rw [hk] at hdb
  obtain ⟨rfl, _⟩ := desc_arr hdb
  obtain ⟨zv, hz, hzv⟩ := F.zero ht
  obtain ⟨vs', h1, h2⟩ := fill_ok (place' := fun i => some (i * te.size, te.size)) hT hps (fun i p hp => hp) hf (VR.cells (hzv C))
  refine OpGood.same (u := .agg vs') ?_ S (.agg cs vs' h2.1 h2.2)
  have e2 : (parts.map (fun (q : Nat × Operand) => (q.1, a.eval q.2))).toList = parts.toList.map fun q => (q.1, a.eval q.2) := by simp
  simp only [execOp, hop, Instr.build, Sem.run_bind, Sem.run_pure, hz, Result.andThen_ok, run_underlying hd, F.size hte]
  have e3 : Instr.fill (fun i => some (i * te.size, te.size)) zv.cells (parts.map (fun (q : Nat × Operand) => (q.1, a.eval q.2))).toList = some vs' := by rw [e2]; exact h1
  simp only [e3]
  rfl
end
end Go.AM
