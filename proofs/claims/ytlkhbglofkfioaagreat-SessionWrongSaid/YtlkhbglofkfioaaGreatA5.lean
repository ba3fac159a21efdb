/- Operations on slices, addresses and records that touch no memory. -/
import Derived.Test.YtlkhbglofkfioaaGreatA4
import Derived.Lib.Strings
set_option linter.unusedVariables false
set_option linter.unusedSimpArgs false
namespace Go.AM
open Go
section
variable {P : Program} {T : Types} {o : Oper} {a : Act} {C : Ctx} {h : Heap} {t : Tmps} {n : Nat}

/-! ### inversions -/
theorem VR.sl_inv {els : List AV} {tag : Tag} {u : Value} (h : VR C (.sl els tag) u) : ∃ a c b o sz, u = .slice a els.length c ∧ els.length ≤ c ∧ TagOk tag a els.length c ∧ (els ≠ [] → a = some ⟨b, o, none⟩ ∧ ¬ C.own b ∧ b < C.w.heap.size) ∧ sized sz els = true ∧
    (∀ i e j x, els[i]? = some e → e.cells[j]? = some x → (C.w.cell? ⟨b, o + i * sz + j, none⟩).isSome = true) ∧ (∀ i e j x v, els[i]? = some e → e.cells[j]? = some x → C.w.cell? ⟨b, o + i * sz + j, none⟩ = some v → VR C x v) := by
  cases h with
  | sl _ _ a c b o sz hn ht ha hs hc hv => exact ⟨a, c, b, o, sz, rfl, hn, ht, ha, hs, hc, hv⟩
theorem VR.ob_inv {id ver sz off len : Nat} {u : Value} (h : VR C (.ob id ver sz off len) u) : ∃ a cap, u = .slice (some a) len cap ∧ len ≤ cap ∧ 1 ≤ ver ∧ ver ≤ C.ver id ∧
    (C.ver id = ver → ∃ l row e, C.loc id = some l ∧ l.sz = sz ∧ (0 < cap → a = ⟨l.blk, l.base + off * sz, none⟩) ∧ C.w.heap[l.blk]? = some (.cells row e (0, 0)) ∧ l.base + (off + cap) * sz ≤ row.size) := by
  cases h with
  | ob _ _ _ _ _ a cap hl h1 hle hh => exact ⟨a, cap, rfl, hl, h1, hle, hh⟩
theorem VR.ptr_inv {id off : Nat} {u : Value} (h : VR C (.ptr id off) u) : ∃ l, u = .pointer (some ⟨l.blk, off, none⟩) ∧ C.loc id = some l ∧ l.base = 0 ∧ C.ver id = 0 := by
  cases h with
  | ptr _ _ l hl hb h0 => exact ⟨l, rfl, hl, hb, h0⟩
theorem VR.eptr_inv {id ver i off : Nat} {u : Value} (h : VR C (.eptr id ver i off) u) : ∃ a, u = .pointer (some a) ∧ 1 ≤ ver ∧ ver ≤ C.ver id ∧ (C.ver id = ver → ∃ l, C.loc id = some l ∧ a = ⟨l.blk, l.base + i * l.sz + off, none⟩) := by
  cases h with
  | eptr _ _ _ _ a hv hle hh => exact ⟨a, rfl, hv, hle, hh⟩
theorem VR.iptr_inv {e : AV} {off : Nat} {u : Value} (h : VR C (.iptr e off) u) : ∃ b o, u = .pointer (some ⟨b, o + off, none⟩) ∧ ¬ C.own b ∧ b < C.w.heap.size ∧ scalars e.cells = true ∧
    (∀ j x, e.cells[j]? = some x → (C.w.cell? ⟨b, o + j, none⟩).isSome = true) ∧ (∀ j x v, e.cells[j]? = some x → C.w.cell? ⟨b, o + j, none⟩ = some v → VR C x v) := by
  cases h with
  | iptr _ _ b o hb hs hsc hc hv => exact ⟨b, o, rfl, hb, hs, hsc, hc, hv⟩
theorem VR.agg_inv {cs : List AV} {u : Value} (h : VR C (.agg cs) u) : ∃ vs, u = .agg vs ∧ vs.size = cs.length ∧ ∀ (i : Nat) (x : AV) (v : Value), cs[i]? = some x → vs[i]? = some v → VR C x v := by
  cases h with
  | agg _ vs hs hv => exact ⟨vs, rfl, hs, hv⟩
theorem VR.tup_inv {cs : List AV} {u : Value} (h : VR C (.tup cs) u) : ∃ vs, u = .tuple vs ∧ vs.size = cs.length ∧ ∀ (i : Nat) (x : AV) (v : Value), cs[i]? = some x → vs[i]? = some v → VR C x v := by
  cases h with
  | tup _ vs hs hv => exact ⟨vs, rfl, hs, hv⟩
theorem VR.fn_inv {f : Nat} {cs : List AV} {u : Value} (h : VR C (.fn f cs) u) : ∃ vs, u = .func (.func f) #[] vs ∧ vs.size = cs.length ∧ ∀ (i : Nat) (x : AV) (v : Value), cs[i]? = some x → vs[i]? = some v → VR C x v := by
  cases h with
  | fn _ _ vs hs hv => exact ⟨vs, rfl, hs, hv⟩
theorem VR.str_inv {l : List Int} {u : Value} (h : VR C (.str l) u) : ∃ s : ByteArray, u = .string s ∧ s.data.toList.map (fun b => (b.toNat : Int)) = l := by
  cases h with
  | str _ s hs => exact ⟨s, rfl, hs⟩
theorem sized_at {sz : Nat} {els : List AV} (h : sized sz els = true) {i : Nat} {e : AV} (hi : els[i]? = some e) : e.cells.length = sz ∧ scalars e.cells = true := by
  have := List.all_eq_true.1 h e (List.mem_of_getElem? hi)
  simpa using this
theorem add_none (b o k : Nat) : (⟨b, o, none⟩ : Addr).add k = ⟨b, o + k, none⟩ := by unfold Addr.add; split <;> simp_all

/-! ### len, cap, min, max, functions, tuples, records -/
theorem op_len {x : Operand} {x' : AOpd} {ty : TypeId} {ti : TI} {sl : Bool} (F : Facts P T) (hop : o.op = .call { callee := .builtin .len, args := #[x], argTypes := #[ty] }) (ht : T ty = some ti) (hk : (sl = true ∧ ∃ e, ti.kind = .slice e) ∨ (sl = false ∧ ti.kind = .string)) (hx : trOpd x = some x') (S : Sim C h) (hT : TR C t a n) {m : Nat} (hm : lenOf sl (ev t x') = some m) :
    OpGood P o a C h (.int .i64 m) := by
  have hx' := ev_ok hT hx
  have key : ∃ d, P.underlying ty = some d ∧ ((∃ e, d = .slice e ∧ ∃ q c, a.eval x = .slice q m c) ∨ (d = .string ∧ ∃ s : ByteArray, a.eval x = .string s ∧ s.size = m)) := by
    rcases hk with ⟨rfl, e, hk⟩ | ⟨rfl, hk⟩
    · refine ⟨_, F.slice ht hk, .inl ⟨e, rfl, ?_⟩⟩
      unfold lenOf at hm
      split at hm
      · rename_i els tag he; rw [he] at hx'; obtain ⟨q, c, _, _, _, hu, _⟩ := VR.sl_inv hx'; cases hm; exact ⟨q, c, hu⟩
      · rename_i he; rw [he] at hx'; obtain ⟨q, c, hu, _⟩ := VR.ob_inv hx'; cases hm; exact ⟨_, c, hu⟩
      · rename_i hb _; cases hb
      · cases hm
    · refine ⟨_, F.str ht hk, .inr ⟨rfl, ?_⟩⟩
      unfold lenOf at hm
      split at hm
      · rename_i hb _; cases hb
      · rename_i hb _; cases hb
      · rename_i l he
        rw [he] at hx'
        obtain ⟨s, hu, hs⟩ := VR.str_inv hx'
        cases hm
        exact ⟨s, hu, by rw [← hs, List.length_map, Array.length_toList]; rfl⟩
      · cases hm
  obtain ⟨d, hd, key⟩ := key
  rcases key with ⟨e, rfl, q, c, hu⟩ | ⟨rfl, s, hu, rfl⟩
  · refine OpGood.same (u := .int .i64 m) ?_ S (.int _ _)
    simp [execOp, hop, resolve, invoke, builtin, hu, Builtin.len_, underlying, hd, goInt]
  · refine OpGood.same (u := .int .i64 s.size) ?_ S (.int _ _)
    simp [execOp, hop, resolve, invoke, builtin, hu, Builtin.len_, underlying, hd, goInt]
theorem op_cap {x : Operand} {x' : AOpd} {ty : TypeId} {ti : TI} {e : TypeId} (F : Facts P T) (hop : o.op = .call { callee := .builtin .cap, args := #[x], argTypes := #[ty] }) (ht : T ty = some ti) (hk : ti.kind = .slice e) (hx : trOpd x = some x') (S : Sim C h) (hT : TR C t a n) {els : List AV} {tag : Tag} (hv : ev t x' = .sl els tag) (htag : tag = .nil ∨ tag = .full) :
    OpGood P o a C h (.int .i64 els.length) := by
  have hx' := ev_ok hT hx
  rw [hv] at hx'
  obtain ⟨q, c, _, _, _, hu, hn, htg, _⟩ := VR.sl_inv hx'
  have hc : c = els.length := by
    rcases htag with rfl | rfl
    · obtain ⟨_, h1, h2⟩ := htg; omega
    · exact htg.2
  subst hc
  refine OpGood.same (u := .int .i64 els.length) ?_ S (.int _ _)
  simp [execOp, hop, resolve, invoke, builtin, hu, Builtin.cap_, underlying, F.slice ht hk, goInt]
theorem op_minmax {x y : Operand} {x' y' : AOpd} {tys : Array TypeId} {mx : Bool} (hop : o.op = .call { callee := .builtin (if mx then .max else .min), args := #[x, y], argTypes := tys }) (hx : trOpd x = some x') (hy : trOpd y = some y') (S : Sim C h) (hT : TR C t a n) {k : IntKind} {i j : Int} (hi : ev t x' = .int k i) (hj : ev t y' = .int k j) :
    OpGood P o a C h (.int k (if mx then (if i < j then j else i) else (if j < i then j else i))) := by
  have hx' := ev_ok hT hx
  have hy' := ev_ok hT hy
  rw [hi] at hx'
  rw [hj] at hy'
  have hu := VR.int_inv hx'
  have hw := VR.int_inv hy'
  refine OpGood.same (u := .int k (if mx then (if i < j then j else i) else (if j < i then j else i))) ?_ S (.int _ _)
  cases mx
  · simp only [Bool.false_eq_true, if_false] at hop
    simp [execOp, hop, resolve, invoke, builtin, hu, hw, Builtin.min_, Builtin.min2]
  · simp only [if_true] at hop
    simp [execOp, hop, resolve, invoke, builtin, hu, hw, Builtin.max_, Builtin.max2]
theorem op_mkfn {f : FuncId} {first cap : Array Operand} {cs : List AOpd} (hop : o.op = .makeFunc (.func f) first cap) (hf : first.size = 0) (hc : trOpds cap.toList = some cs) (S : Sim C h) (hT : TR C t a n) : OpGood P o a C h (.fn f (evs t cs)) := by
  obtain ⟨h1, h2⟩ := evs_ok hT hc
  have hf' : first = #[] := Array.eq_empty_of_size_eq_zero hf
  subst hf'
  refine OpGood.same (u := .func (.func f) #[] (cap.map a.eval)) (by simp [execOp, hop, Instr.makeFunc]) S (.fn f _ _ (by simp [evs, h1]) fun i x v hx hv => h2 i x v hx ?_)
  simpa using hv
theorem op_ext {x : Operand} {x' : AOpd} {i : Nat} (hop : o.op = .extract x i) (hx : trOpd x = some x') (S : Sim C h) (hT : TR C t a n) {vs : List AV} (hv : ev t x' = .tup vs) {v : AV} (hi : vs[i]? = some v) : OpGood P o a C h v := by
  have hx' := ev_ok hT hx
  rw [hv] at hx'
  obtain ⟨us, hu, hs, hr⟩ := VR.tup_inv hx'
  have hlt : i < us.size := by rw [hs]; exact (List.getElem?_eq_some_iff.1 hi).1
  refine OpGood.same (u := us[i]) ?_ S (hr i v us[i] hi (Array.getElem?_eq_getElem hlt))
  simp [execOp, hop, hu, Instr.extract, hlt]
/-- A part of a row of cells. -/
theorem slots_ok {cs : List AV} {vs : Array Value} (hs : vs.size = cs.length) (hr : ∀ (i : Nat) (x : AV) (v : Value), cs[i]? = some x → vs[i]? = some v → VR C x v) {agg : Bool} {off m : Nat} {v : AV} (hv : slots cs agg off m = some v) :
    off + m ≤ cs.length ∧ 0 < m ∧ (agg = true → VR C v (.agg (vs.extract off (off + m)))) ∧ (agg = false → m = 1 ∧ ∃ u, vs[off]? = some u ∧ VR C v u) := by
  unfold slots at hv
  simp only at hv
  cases hb : (Nat.beq ((cs.drop off).take m).length m && Nat.blt 0 m) with
  | false => rw [hb] at hv; cases hv
  | true =>
    rw [hb] at hv
    simp only [Bool.and_eq_true] at hb
    have hl : ((cs.drop off).take m).length = m := Nat.eq_of_beq_eq_true hb.1
    have h0 : 0 < m := Nat.le_of_ble_eq_true hb.2
    have hle : min m (cs.length - off) = m := by simpa using hl
    have hle' : off + m ≤ cs.length := by omega
    cases agg with
    | true =>
      simp only [cond_true, Option.some.injEq] at hv
      subst hv
      refine ⟨hle', h0, fun _ => .agg _ _ (by simp [hs]; omega) fun i x v hx hv => ?_, fun h => (by cases h)⟩
      have hi : i < m := by
        have := (List.getElem?_eq_some_iff.1 hx).1
        rw [hl] at this; exact this
      rw [List.getElem?_take, if_pos hi, List.getElem?_drop] at hx
      have hv' : vs[off + i]? = some v := by
        rw [Array.getElem?_extract] at hv
        split at hv
        · exact hv
        · cases hv
      exact hr _ x v hx hv'
    | false =>
      simp only [cond_true, cond_false] at hv
      split at hv
      · rename_i x he
        cases hv
        have h1 : m = 1 := by rw [he] at hl; simpa using hl.symm
        subst h1
        have hx : cs[off]? = some v := by
          have : ((cs.drop off).take 1)[0]? = some v := by rw [he]; rfl
          simpa using this
        have hlt : off < vs.size := by omega
        exact ⟨hle', h0, fun h => (by cases h), fun _ => ⟨rfl, vs[off], Array.getElem?_eq_getElem hlt, hr _ v _ hx (Array.getElem?_eq_getElem hlt)⟩⟩
      · cases hv
theorem op_fld {x : Operand} {x' : AOpd} {ty : TypeId} {ti tf : TI} {fs : List (Nat × TypeId)} {f : Nat} {p : Nat × TypeId} (F : Facts P T) (hop : o.op = .field ty x f) (ht : T ty = some ti) (hk : ti.kind = .struct fs) (hf : fs[f]? = some p) (htf : T p.2 = some tf) (hx : trOpd x = some x') (S : Sim C h) (hT : TR C t a n)
    {cs : List AV} (hv : ev t x' = .agg cs) {v : AV} (hs : slots cs tf.agg p.1 tf.size = some v) : OpGood P o a C h v := by
  have hx' := ev_ok hT hx
  rw [hv] at hx'
  obtain ⟨vs, hu, hsz, hr⟩ := VR.agg_inv hx'
  obtain ⟨d, hd, hdb⟩ := F.und ht
  rw [hk] at hdb
  obtain ⟨gs, rfl, _, hgs⟩ := desc_struct hdb
  have hg : ∃ g, gs[f]? = some g ∧ g.offset = p.1 ∧ g.type = p.2 := by
    rw [← hgs, List.getElem?_map, Option.map_eq_some_iff] at hf
    obtain ⟨g, h1, h2⟩ := hf
    exact ⟨g, by simpa using h1, by rw [← h2], by rw [← h2]⟩
  obtain ⟨g, hg, hgo, hgt⟩ := hg
  obtain ⟨h1, h2, h3, h4⟩ := slots_ok hsz hr hs
  cases hagg : tf.agg with
  | true =>
    refine OpGood.same (u := .agg (vs.extract p.1 (p.1 + tf.size))) ?_ S (h3 hagg)
    simp [execOp, hop, Instr.field, underlying, hd, hg, hu, asAgg, part, hgt, hgo, F.agg htf, F.size htf, hagg]
  | false =>
    obtain ⟨h5, u, h6, h7⟩ := h4 hagg
    refine OpGood.same (u := u) ?_ S h7
    simp [execOp, hop, Instr.field, underlying, hd, hg, hu, asAgg, part, hgt, hgo, F.agg htf, hagg, h6]

/-! ### addresses -/
theorem op_fadr {x : Operand} {x' : AOpd} {ty : TypeId} {ti : TI} {fs : List (Nat × TypeId)} {f : Nat} {p : Nat × Nat} (F : Facts P T) (hop : o.op = .fieldAddr ty x f) (ht : T ty = some ti) (hk : ti.kind = .struct fs) (hf : fieldAt T fs f = some p) (hp : p.2 ≠ 0) (hx : trOpd x = some x') (S : Sim C h) (hT : TR C t a n) {v w : AV} (hv : ev t x' = v)
    (hw : (∃ id q, v = .ptr id q ∧ w = .ptr id (q + p.1)) ∨ (∃ id ver i q, v = .eptr id ver i q ∧ w = .eptr id ver i (q + p.1)) ∨ (∃ e q, v = .iptr e q ∧ w = .iptr e (q + p.1))) : OpGood P o a C h w := by
  have hx' := ev_ok hT hx
  rw [hv] at hx'
  obtain ⟨d, hd, hdb⟩ := F.und ht
  rw [hk] at hdb
  obtain ⟨gs, rfl, _, hgs⟩ := desc_struct hdb
  simp only [fieldAt, Option.bind_eq_some_iff] at hf
  obtain ⟨q, hq, tf, htf, hf⟩ := hf
  simp only [Option.some.injEq] at hf
  subst hf
  have hg : ∃ g, gs[f]? = some g ∧ g.offset = q.1 ∧ g.type = q.2 := by
    rw [← hgs, List.getElem?_map, Option.map_eq_some_iff] at hq
    obtain ⟨g, h1, h2⟩ := hq
    exact ⟨g, by simpa using h1, by rw [← h2], by rw [← h2]⟩
  obtain ⟨g, hg, hgo, hgt⟩ := hg
  have hrun : ∀ ad : Addr, (Instr.fieldAt ty (.pointer (some ad)) f).run P C.w = .ok (.pointer (some (ad.add q.1))) C.w := by
    intro ad
    simp [Instr.fieldAt, underlying, hd, hg, Instr.sureAddr, fieldPlace, hgt, hgo, F.size htf, hp]
  rcases hw with ⟨id, k, rfl, rfl⟩ | ⟨id, ver, i, k, rfl, rfl⟩ | ⟨e, k, rfl, rfl⟩
  · obtain ⟨l, hu, hl, hb, h0⟩ := VR.ptr_inv hx'
    exact OpGood.same (u := .pointer (some ⟨l.blk, k + q.1, none⟩)) (by simp only [execOp, hop, hu]; simp [hrun, add_none]) S (.ptr id _ l hl hb h0)
  · obtain ⟨ad, hu, h1, hle, hh⟩ := VR.eptr_inv hx'
    refine OpGood.same (u := .pointer (some (ad.add q.1))) (by simp only [execOp, hop, hu]; simp [hrun]) S (.eptr id ver i _ _ h1 hle fun e => ?_)
    obtain ⟨l, hl, ha⟩ := hh e
    exact ⟨l, hl, by rw [ha, add_none, Nat.add_assoc]⟩
  · obtain ⟨b, k', hu, hb, hs, hsc, hc, hr⟩ := VR.iptr_inv hx'
    exact OpGood.same (u := .pointer (some ⟨b, k' + (k + q.1), none⟩)) (by simp only [execOp, hop, hu]; simp [hrun, add_none, Nat.add_assoc]) S (.iptr e _ b k' hb hs hsc hc hr)
/-- The address of an element of a slice. -/
theorem op_iadr {x i : Operand} {x' i' : AOpd} {ty e : TypeId} {ti te : TI} (F : Facts P T) (hop : o.op = .indexAddr ty x i) (ht : T ty = some ti) (hk : ti.kind = .slice e) (hte : T e = some te) (hx : trOpd x = some x') (hi : trOpd i = some i') (S : Sim C h) (hT : TR C t a n) {m : Nat} (hm : natOf (ev t i') = some m) {w : AV}
    (hw : (∃ els tag el, ev t x' = .sl els tag ∧ els[m]? = some el ∧ headSz te.size els = true ∧ w = .iptr el 0) ∨ (∃ id ver off len, ev t x' = .ob id ver te.size off len ∧ m < len ∧ w = .eptr id ver (off + m) 0)) : OpGood P o a C h w := by
  obtain ⟨k, hiv, _⟩ := natOf_ok hi hT hm
  have hx' := ev_ok hT hx
  have hrun : ∀ (ad : Addr) (len cap : Nat), m < len → (Instr.indexAt ty (.slice (some ad) len cap) (.int k m)).run P C.w = .ok (.pointer (some (ad.add (m * te.size)))) C.w := by
    intro ad len cap hlt
    have h1 : (0 : Int) ≤ (m : Int) ∧ (m : Int) < (len : Int) := by omega
    simp [Instr.indexAt, asIntOf, underlying, F.slice ht hk, hlt, F.size hte]
  rcases hw with ⟨els, tag, el, he, hel, hsz, rfl⟩ | ⟨id, ver, off, len, he, hlt, rfl⟩
  · rw [he] at hx'
    obtain ⟨q, c, b, k', sz, hu, hn, htg, ha, hs, hc, hr⟩ := VR.sl_inv hx'
    have hne : els ≠ [] := by rintro rfl; simp at hel
    obtain ⟨rfl, hb, hlt⟩ := ha hne
    have hml : m < els.length := (List.getElem?_eq_some_iff.1 hel).1
    have hsz' : sz = te.size := by
      cases els with
      | nil => exact absurd rfl hne
      | cons e0 r =>
        have h1 := (sized_at hs (i := 0) (e := e0) rfl).1
        have h2 : e0.cells.length = te.size := Nat.eq_of_beq_eq_true hsz
        omega
    subst hsz'
    refine OpGood.same (u := .pointer (some ⟨b, k' + m * te.size + 0, none⟩)) ?_ S (.iptr el 0 b (k' + m * te.size) hb hlt (sized_at hs hel).2 (fun j x hj => ?_) (fun j x v hj hv => ?_))
    · simp only [execOp, hop, hu, hiv]; simp [hrun _ _ _ hml, add_none]
    · exact hc m el j x hel hj
    · exact hr m el j x v hel hj hv
  · rw [he] at hx'
    obtain ⟨ad, cap, hu, hle, h1, hver, hh⟩ := VR.ob_inv hx'
    refine OpGood.same (u := .pointer (some (ad.add (m * te.size)))) (by simp only [execOp, hop, hu, hiv]; simp [hrun _ _ _ hlt]) S (.eptr id ver _ 0 _ h1 hver fun e => ?_)
    obtain ⟨l, row, q, hl, hz, ha, _⟩ := hh e
    refine ⟨l, hl, ?_⟩
    rw [ha (by omega), add_none, hz, Nat.add_mul]
    simp [Nat.add_assoc]
theorem op_iadra {x i : Operand} {x' i' : AOpd} {ty e : TypeId} {ti te : TI} {len : Nat} (F : Facts P T) (hop : o.op = .indexAddr ty x i) (ht : T ty = some ti) (hk : ti.kind = .arr len e) (hte : T e = some te) (hx : trOpd x = some x') (hi : trOpd i = some i') (S : Sim C h) (hT : TR C t a n) {m : Nat} (hm : natOf (ev t i') = some m) (hlt : m < len)
    {id off : Nat} (he : ev t x' = .ptr id off) : OpGood P o a C h (.ptr id (off + m * te.size)) := by
  obtain ⟨k, hiv, _⟩ := natOf_ok hi hT hm
  have hx' := ev_ok hT hx
  rw [he] at hx'
  obtain ⟨l, hu, hl, hb, h0⟩ := VR.ptr_inv hx'
  obtain ⟨d, hd, hdb⟩ := F.und ht
  rw [hk] at hdb
  obtain ⟨rfl, _⟩ := desc_arr hdb
  have h1 : (0 : Int) ≤ (m : Int) ∧ (m : Int) < (len : Int) := by omega
  refine OpGood.same (u := .pointer (some ⟨l.blk, off + m * te.size, none⟩)) ?_ S (.ptr id _ l hl hb h0)
  simp only [execOp, hop, hu, hiv]
  simp [Instr.indexAt, asIntOf, underlying, hd, hlt, F.size hte, Instr.sureAddr, add_none]
theorem op_sidx {x i : Operand} {x' i' : AOpd} {ty : TypeId} {ti : TI} (F : Facts P T) (hop : o.op = .index ty x i) (ht : T ty = some ti) (hk : ti.kind = .string) (hx : trOpd x = some x') (hi : trOpd i = some i') (S : Sim C h) (hT : TR C t a n) {m : Nat} (hm : natOf (ev t i') = some m) {l : List Int} (he : ev t x' = .str l) {c : Int} (hc : l[m]? = some c) :
    OpGood P o a C h (.int .u8 c) := by
  obtain ⟨k, hiv, _⟩ := natOf_ok hi hT hm
  have hx' := ev_ok hT hx
  rw [he] at hx'
  obtain ⟨s, hu, hs⟩ := VR.str_inv hx'
  have hsm : ∃ b : UInt8, s[m]? = some b ∧ (b.toNat : Int) = c := by
    rw [← hs, List.getElem?_map, Option.map_eq_some_iff] at hc
    obtain ⟨b, h1, h2⟩ := hc
    obtain ⟨h3, h4⟩ := List.getElem?_eq_some_iff.1 h1
    have hlt : m < s.size := by simpa using h3
    refine ⟨b, ?_, h2⟩
    rw [getElem?_pos s m hlt]
    congr 1
  obtain ⟨b, hb, rfl⟩ := hsm
  refine OpGood.same (u := .int .u8 (b.toNat : Int)) ?_ S (.int _ _)
  simp only [execOp, hop, hu, hiv]
  simp [Instr.index, asIntOf, underlying, F.str ht hk, hb]

/-! ### slice expressions -/
theorem run_bounds_plain {isS : Bool} {len cap b c : Nat} {lo hi : Option Value} (hhi : (hi = none ∧ b = len) ∨ ∃ y k, hi = some y ∧ y = .int k b ∧ b ≤ cap) (hlo : (lo = none ∧ c = 0) ∨ ∃ y k, lo = some y ∧ y = .int k c ∧ c ≤ b) (w : World) :
    (Instr.sliceBounds isS len cap lo hi none).run P w = .ok (c, b, cap) w := by
  rcases hhi with ⟨rfl, rfl⟩ | ⟨y, k, rfl, hy, hb⟩
  · rcases hlo with ⟨rfl, rfl⟩ | ⟨z, j, rfl, hz, hc⟩
    · simp [Instr.sliceBounds]
    · simp [Instr.sliceBounds, run_bound hz hc]
  · rcases hlo with ⟨rfl, rfl⟩ | ⟨z, j, rfl, hz, hc⟩
    · simp [Instr.sliceBounds, run_bound hy hb]
    · simp [Instr.sliceBounds, run_bound hy hb, run_bound hz hc]
theorem run_bounds_full {isS : Bool} {len cap b c m : Nat} {lo hi mx : Option Value} (hmx : ∃ y k, mx = some y ∧ y = .int k m ∧ m ≤ cap) (hhi : ∃ y k, hi = some y ∧ y = .int k b ∧ b ≤ m) (hlo : (lo = none ∧ c = 0) ∨ ∃ y k, lo = some y ∧ y = .int k c ∧ c ≤ b) (w : World) :
    (Instr.sliceBounds isS len cap lo hi mx).run P w = .ok (c, b, m) w := by
  obtain ⟨x, i, rfl, hx, hm⟩ := hmx
  obtain ⟨y, k, rfl, hy, hb⟩ := hhi
  rcases hlo with ⟨rfl, rfl⟩ | ⟨z, j, rfl, hz, hc⟩
  · simp [Instr.sliceBounds, run_bound hx hm, run_bound hy hb]
  · simp [Instr.sliceBounds, run_bound hx hm, run_bound hy hb, run_bound hz hc]
theorem sub_at {els : List AV} {p q i : Nat} {e : AV} (h : ((els.take q).drop p)[i]? = some e) : els[p + i]? = some e := by
  rw [List.getElem?_drop, List.getElem?_take] at h
  split at h
  · exact h
  · cases h
/-- A part of an inline slice. -/
theorem VR.sub {els : List AV} {ad : Option Addr} {b o sz p q c' : Nat} {tag' : Tag} {ad' : Option Addr} (ha : els ≠ [] → ad = some ⟨b, o, none⟩ ∧ ¬ C.own b ∧ b < C.w.heap.size) (hs : sized sz els = true)
    (hc : ∀ i e j x, els[i]? = some e → e.cells[j]? = some x → (C.w.cell? ⟨b, o + i * sz + j, none⟩).isSome = true) (hr : ∀ i e j x v, els[i]? = some e → e.cells[j]? = some x → C.w.cell? ⟨b, o + i * sz + j, none⟩ = some v → VR C x v)
    (hq : q ≤ els.length) (hpq : p ≤ q) (hc' : q - p ≤ c') (ht : TagOk tag' ad' (q - p) c') (had : p < q → ad = some ⟨b, o, none⟩ → ad' = some ⟨b, o + p * sz, none⟩) : VR C (.sl ((els.take q).drop p) tag') (.slice ad' (q - p) c') := by
  have hlen : ((els.take q).drop p).length = q - p := by simp; omega
  have hs' : sized sz ((els.take q).drop p) = true := by
    unfold sized at hs ⊢
    rw [List.all_eq_true] at hs ⊢
    exact fun e he => hs e (List.mem_of_mem_take (List.mem_of_mem_drop he))
  have := VR.sl (C := C) ((els.take q).drop p) tag' ad' c' b (o + p * sz) sz (by omega) (by rw [hlen]; exact ht) (fun hne => ?_) hs' (fun i e j x hi hj => ?_) (fun i e j x v hi hj hv => ?_)
  · rwa [hlen] at this
  · have hpl : p < q := by
      rcases Nat.lt_or_ge p q with h1 | h1
      · exact h1
      · exfalso; apply hne; apply List.eq_nil_of_length_eq_zero; omega
    have hne' : els ≠ [] := by rintro rfl; simp at hq; omega
    obtain ⟨h1, h2, h3⟩ := ha hne'
    exact ⟨had hpl h1, h2, h3⟩
  · have := hc (p + i) e j x (sub_at hi) hj
    rwa [show o + p * sz + i * sz + j = o + (p + i) * sz + j from by rw [Nat.add_mul]; omega]
  · rw [show o + p * sz + i * sz + j = o + (p + i) * sz + j from by rw [Nat.add_mul]; omega] at hv
    exact hr (p + i) e j x v (sub_at hi) hj hv
theorem bound_val {t : Tmps} {m d r : Nat} {x : Option Operand} {x' : Option AOpd} (hx : trOpt x = some x') (hT : TR C t a n) (hb : bound t m x' d = some r) (hd : d ≤ m) :
    r ≤ m ∧ ((x.map a.eval = none ∧ x' = none ∧ r = d) ∨ ∃ y k, x.map a.eval = some y ∧ y = .int k r ∧ r ≤ m) := by
  rcases bound_ok hx hT hb with ⟨rfl, rfl, rfl⟩ | ⟨y, k, rfl, hy, hr⟩
  · exact ⟨hd, .inl ⟨rfl, rfl, rfl⟩⟩
  · exact ⟨hr, .inr ⟨_, k, rfl, hy, hr⟩⟩
theorem run_slice (F : Facts P T) {ty e : TypeId} {ti te : TI} (ht : T ty = some ti) (hk : ti.kind = .slice e) (hte : T e = some te) {ad : Option Addr} {len cap b c m : Nat} {lo hi mx : Option Value} {w : World} (hb : (Instr.sliceBounds true len cap lo hi mx).run P w = .ok (c, b, m) w) :
    (Instr.sliceAt ty (.slice ad len cap) lo hi mx).run P w = .ok (.slice (if m = c then ad else ad.map (·.add (c * te.size))) (b - c) (m - c)) w := by
  simp [Instr.sliceAt, Instr.slice, underlying, F.slice ht hk, hb, F.size hte]
theorem op_slc {x : Operand} {x' : AOpd} {lo hi mx : Option Operand} {lo' hi' mx' : Option AOpd} {ty e : TypeId} {ti te : TI} (F : Facts P T) (hop : o.op = .slice ty x lo hi mx) (ht : T ty = some ti) (hk : ti.kind = .slice e) (hte : T e = some te)
    (hx : trOpd x = some x') (hlo : trOpt lo = some lo') (hhi : trOpt hi = some hi') (hmx : trOpt mx = some mx') (hmh : mx.isSome = true → hi.isSome = true) (S : Sim C h) (hT : TR C t a n) {v : AV} (hv : sliceOf t te.size (ev t x') lo' hi' mx' = some v) : OpGood P o a C h v := by
  have hx' := ev_ok hT hx
  have hexec : ∀ u, (Instr.sliceAt ty (a.eval x) (lo.map a.eval) (hi.map a.eval) (mx.map a.eval)).run P C.w = .ok u C.w → (execOp a.eval o).run P C.w = .ok (.value u) C.w := by
    intro u hu; simp only [execOp, hop]; simp [hu]
  unfold sliceOf at hv
  split at hv
  · rename_i els tag he
    rw [he] at hx'
    obtain ⟨ad, cap, bk, ofs, sz, hu, hn, htg, ha, hs, hc, hr⟩ := VR.sl_inv hx'
    cases hh : headSz te.size els with
    | false => rw [hh] at hv; cases hv
    | true =>
      rw [hh] at hv
      simp only [cond_true] at hv
      have hszt : els ≠ [] → sz = te.size := by
        intro hne
        cases els with
        | nil => exact absurd rfl hne
        | cons e0 r =>
          have h1 := (sized_at hs (i := 0) (e := e0) rfl).1
          have h2 : e0.cells.length = te.size := Nat.eq_of_beq_eq_true hh
          omega
      -- the address of what is cut
      have hadd : ∀ (m p q : Nat), q ≤ els.length → q ≤ m → p < q → ad = some ⟨bk, ofs, none⟩ → (if m = p then ad else ad.map (·.add (p * te.size))) = some ⟨bk, ofs + p * sz, none⟩ := by
        intro m p q h1 h2 h3 h4
        have hne : els ≠ [] := by rintro rfl; simp at h1; omega
        rw [if_neg (by omega), h4, hszt hne]
        simp [add_none]
      have hnn : ∀ m p, ad ≠ none → (if m = p then ad else ad.map (·.add (p * te.size))) ≠ none := by
        intro m p h1
        split
        · exact h1
        · cases ad with
          | none => exact absurd rfl h1
          | some q => simp
      split at hv
      · -- no third bound
        simp only [Option.bind_eq_some_iff, Option.some.injEq] at hv
        obtain ⟨b, hb, c, hc0, rfl⟩ := hv
        obtain ⟨hbl, hb'⟩ := bound_val hhi hT hb (Nat.le_refl _)
        obtain ⟨hcl, hc'⟩ := bound_val hlo hT hc0 (Nat.zero_le _)
        have hmx0 : mx = none := by
          cases mx with
          | none => rfl
          | some q => simp [trOpt] at hmx
        subst hmx0
        have hrun := run_slice (P := P) F ht hk hte (ad := ad) (w := C.w) (run_bounds_plain (isS := true) (len := els.length) (cap := cap) (b := b) (c := c)
          (hb'.imp (fun q => ⟨q.1, q.2.2⟩) (fun ⟨y, k, h1, h2, h3⟩ => ⟨y, k, h1, h2, Nat.le_trans h3 hn⟩)) (hc'.imp (fun q => ⟨q.1, q.2.2⟩) _root_.id) C.w)
        refine OpGood.same (hexec _ (by rw [hu]; exact hrun)) S (VR.sub ha hs hc hr hbl hcl (by omega) ?_ (fun h1 h2 => hadd cap c b hbl (by omega) h1 h2))
        cases tag with
        | nil =>
          obtain ⟨h1, h2, h3⟩ := htg
          subst h1
          refine ⟨?_, by omega, by omega⟩
          split <;> rfl
        | full =>
          obtain ⟨h1, h2⟩ := htg
          cases hbe : Nat.beq b els.length with
          | true =>
            have := Nat.eq_of_beq_eq_true hbe
            exact ⟨hnn _ _ h1, by omega⟩
          | false => exact hnn _ _ h1
        | non => exact hnn _ _ htg
      · rename_i m
        have hmx1 : ∃ q, mx = some q := by
          cases mx with
          | none => simp [trOpt] at hmx
          | some q => exact ⟨q, rfl⟩
        obtain ⟨mxo, rfl⟩ := hmx1
        obtain ⟨hio, rfl⟩ := Option.isSome_iff_exists.1 (hmh rfl)
        have hfull : ∀ (c b p : Nat), c ≤ cap → bound t els.length (some m) 0 = some c → bound t c hi' els.length = some b → bound t b lo' 0 = some p →
            b ≤ c ∧ p ≤ b ∧ (Instr.sliceAt ty (.slice ad els.length cap) (lo.map a.eval) ((some hio).map a.eval) ((some mxo).map a.eval)).run P C.w = .ok (.slice (if c = p then ad else ad.map (·.add (p * te.size))) (b - p) (c - p)) C.w := by
          intro c b p hcc h1 h2 h3
          have q1 : ∃ y k, (some mxo).map a.eval = some y ∧ y = .int k c ∧ c ≤ cap := by
            rcases bound_ok hmx hT h1 with ⟨q, _⟩ | ⟨y, k, q, hy, hr⟩
            · cases q
            · cases q; exact ⟨_, k, rfl, hy, hcc⟩
          have q2 : b ≤ c ∧ ∃ y k, (some hio).map a.eval = some y ∧ y = .int k b ∧ b ≤ c := by
            rcases bound_ok hhi hT h2 with ⟨q, _⟩ | ⟨y, k, q, hy, hr⟩
            · cases q
            · cases q; exact ⟨hr, _, k, rfl, hy, hr⟩
          obtain ⟨hpl, hp'⟩ := bound_val hlo hT h3 (Nat.zero_le _)
          exact ⟨q2.1, hpl, run_slice F ht hk hte (run_bounds_full q1 q2.2 (hp'.imp (fun q => ⟨q.1, q.2.2⟩) _root_.id) C.w)⟩
        split at hv
        · -- nil
          simp only [Option.bind_eq_some_iff, Option.some.injEq] at hv
          obtain ⟨c, hc0, b, hb, p, hp, rfl⟩ := hv
          obtain ⟨h1, h2, h3⟩ := htg
          have h0 : els = [] := List.eq_nil_of_length_eq_zero h2
          subst h0
          subst h1
          subst h3
          have hc00 : c = 0 := by
            have := (bound_val hmx hT hc0 (Nat.le_refl _)).1
            omega
          subst hc00
          have hb2 : bound t 0 hi' ([] : List AV).length = some b := hb
          obtain ⟨h5, h6, hrun⟩ := hfull 0 b p (Nat.zero_le _) hc0 hb2 hp
          have hb0 : b = 0 := by omega
          have hp0 : p = 0 := by omega
          subst hb0
          subst hp0
          refine OpGood.same (hexec _ (by rw [hu]; exact hrun)) S ?_
          exact VR.ofOne (v := .slice none 0 0) rfl
        · rename_i hnotnil
          simp only [Option.bind_eq_some_iff, Option.some.injEq] at hv
          obtain ⟨c, hc0, b, hb, p, hp, rfl⟩ := hv
          have hcl : c ≤ els.length := (bound_val hmx hT hc0 (Nat.zero_le _)).1
          obtain ⟨h5, h6, hrun⟩ := hfull c b p (by omega) hc0 hb hp
          have hadn : ad ≠ none := by
            cases tag with
            | nil => exact absurd rfl hnotnil
            | full => exact htg.1
            | non => exact htg
          refine OpGood.same (hexec _ (by rw [hu]; exact hrun)) S (VR.sub ha hs hc hr (by omega) h6 (by omega) ?_ (fun h1 h2 => hadd c p b (by omega) (by omega) h1 h2))
          cases hbe : Nat.beq b c with
          | true =>
            have := Nat.eq_of_beq_eq_true hbe
            exact ⟨hnn _ _ hadn, by omega⟩
          | false => exact hnn _ _ hadn
  · rename_i id ver sz' off len he
    rw [he] at hx'
    obtain ⟨ad, cap, hu, hle, h1, hver, hh⟩ := VR.ob_inv hx'
    cases hz : Nat.beq te.size sz' with
    | false => rw [hz] at hv; cases hv
    | true =>
      have hzz := Nat.eq_of_beq_eq_true hz
      subst hzz
      rw [hz] at hv
      simp only [cond_true] at hv
      -- what is cut
      have hob : ∀ (m p b : Nat), m ≤ cap → p ≤ b → b ≤ m → VR C (.ob id ver te.size (off + p) (b - p)) (.slice (if m = p then some ad else (some ad).map (·.add (p * te.size))) (b - p) (m - p)) := by
        intro m p b h2 h3 h4
        have hsome : ∃ ad', (if m = p then some ad else (some ad).map (·.add (p * te.size))) = some ad' ∧ (p < m → ad' = ad.add (p * te.size)) := by
          split
          · exact ⟨ad, rfl, fun h => by omega⟩
          · exact ⟨_, rfl, fun _ => rfl⟩
        obtain ⟨ad', h5, h6⟩ := hsome
        rw [h5]
        refine .ob id ver te.size (off + p) (b - p) ad' (m - p) (by omega) h1 hver fun e => ?_
        obtain ⟨l, row, q, hl, hlz, had, hrow, hroom⟩ := hh e
        refine ⟨l, row, q, hl, hlz, fun hpos => ?_, hrow, Nat.le_trans ?_ hroom⟩
        · rw [h6 (by omega), had (by omega), add_none, Nat.add_mul, Nat.add_assoc]
        · exact Nat.add_le_add_left (Nat.mul_le_mul_right _ (by omega)) _
      split at hv
      · simp only [Option.bind_eq_some_iff, Option.some.injEq] at hv
        obtain ⟨b, hb, c, hc0, rfl⟩ := hv
        obtain ⟨hbl, hb'⟩ := bound_val hhi hT hb (Nat.le_refl _)
        obtain ⟨hcl, hc'⟩ := bound_val hlo hT hc0 (Nat.zero_le _)
        have hmx0 : mx = none := by
          cases mx with
          | none => rfl
          | some q => simp [trOpt] at hmx
        subst hmx0
        have hrun := run_slice (P := P) F ht hk hte (ad := some ad) (w := C.w) (run_bounds_plain (isS := true) (len := len) (cap := cap) (b := b) (c := c)
          (hb'.imp (fun q => ⟨q.1, q.2.2⟩) (fun ⟨y, k, h1, h2, h3⟩ => ⟨y, k, h1, h2, Nat.le_trans h3 hle⟩)) (hc'.imp (fun q => ⟨q.1, q.2.2⟩) _root_.id) C.w)
        exact OpGood.same (hexec _ (by rw [hu]; exact hrun)) S (hob cap c b (Nat.le_refl _) hcl (by omega))
      · rename_i m
        have hmx1 : ∃ q, mx = some q := by
          cases mx with
          | none => simp [trOpt] at hmx
          | some q => exact ⟨q, rfl⟩
        obtain ⟨mxo, rfl⟩ := hmx1
        obtain ⟨hio, rfl⟩ := Option.isSome_iff_exists.1 (hmh rfl)
        simp only [Option.bind_eq_some_iff, Option.some.injEq] at hv
        obtain ⟨c, hc0, b, hb, p, hp, rfl⟩ := hv
        have hcl : c ≤ len := (bound_val hmx hT hc0 (Nat.zero_le _)).1
        have q1 : ∃ y k, (some mxo).map a.eval = some y ∧ y = .int k c ∧ c ≤ cap := by
          rcases bound_ok hmx hT hc0 with ⟨q, _⟩ | ⟨y, k, q, hy, hr⟩
          · cases q
          · cases q; exact ⟨_, k, rfl, hy, by omega⟩
        have q2 : b ≤ c ∧ ∃ y k, (some hio).map a.eval = some y ∧ y = .int k b ∧ b ≤ c := by
          rcases bound_ok hhi hT hb with ⟨q, _⟩ | ⟨y, k, q, hy, hr⟩
          · cases q
          · cases q; exact ⟨hr, _, k, rfl, hy, hr⟩
        obtain ⟨hpl, hp'⟩ := bound_val hlo hT hp (Nat.zero_le _)
        have hrun := run_slice (P := P) F ht hk hte (ad := some ad) (len := len) (w := C.w) (run_bounds_full q1 q2.2 (hp'.imp (fun q => ⟨q.1, q.2.2⟩) _root_.id) C.w)
        exact OpGood.same (hexec _ (by rw [hu]; exact hrun)) S (hob c p b (by omega) hpl q2.1)
  · cases hv
theorem op_slcs {x : Operand} {x' : AOpd} {lo hi mx : Option Operand} {lo' hi' mx' : Option AOpd} {ty : TypeId} {ti : TI} (F : Facts P T) (hop : o.op = .slice ty x lo hi mx) (ht : T ty = some ti) (hk : ti.kind = .string)
    (hx : trOpd x = some x') (hlo : trOpt lo = some lo') (hhi : trOpt hi = some hi') (hmx : trOpt mx = some mx') (S : Sim C h) (hT : TR C t a n) {v : AV} (hv : sliceStr t (ev t x') lo' hi' mx' = some v) : OpGood P o a C h v := by
  have hx' := ev_ok hT hx
  unfold sliceStr at hv
  split at hv
  · rename_i l he
    rw [he] at hx'
    obtain ⟨s, hu, hs⟩ := VR.str_inv hx'
    have hmx0 : mx = none := by
      cases mx with
      | none => rfl
      | some q => simp [trOpt] at hmx
    subst hmx0
    simp only [Option.bind_eq_some_iff, Option.some.injEq] at hv
    obtain ⟨b, hb, c, hc0, rfl⟩ := hv
    have hsz : s.size = l.length := by rw [← hs, List.length_map, Array.length_toList]; rfl
    obtain ⟨hbl, hb'⟩ := bound_val hhi hT hb (Nat.le_refl _)
    obtain ⟨hcl, hc'⟩ := bound_val hlo hT hc0 (Nat.zero_le _)
    have hrun := run_bounds_plain (P := P) (isS := false) (len := s.size) (cap := s.size) (b := b) (c := c) (hb'.imp (fun q => ⟨q.1, by rw [hsz]; exact q.2.2⟩) (fun ⟨y, k, h1, h2, h3⟩ => ⟨y, k, h1, h2, by omega⟩)) (hc'.imp (fun q => ⟨q.1, q.2.2⟩) _root_.id) C.w
    refine OpGood.same (u := .string (s.extract c b)) ?_ S (.str _ _ ?_)
    · simp only [execOp, hop, hu]
      simp [Instr.sliceAt, Instr.slice, underlying, F.str ht hk, hrun]
    · rw [← hs, ← List.map_take, ← List.map_drop]
      congr 1
      have := ByteArray.toList_eq (s.extract c b)
      rw [← this, Lib.extract_toList, List.drop_take]
  · cases hv
end
end Go.AM
