/- Operations that touch no memory: what the abstract machine says of them is what the model does. -/
import Derived.Test.YtlkhbglofkfioaaGreatA3
import Derived.RowKit
import Derived.Laws.BytesArg
import Derived.Laws.Strings
set_option linter.unusedVariables false
set_option linter.unusedSimpArgs false
namespace Go.AM
open Go

/-- '==' of two structs of this type, cell by cell. -/
def EqFact (P : Program) (t : TypeId) : Prop :=
  ∀ (C : Ctx) (cs ds : List AV) (xs ys : Array Value) (r : Bool), sameCells cs ds = some r → VR C (.agg cs) (.agg xs) → VR C (.agg ds) (.agg ys) →
    (∀ w, (Op.equal t (.agg xs) (.agg ys)).run P w = .ok r w) ∧ (P.eqGuardType P.depth t = false) ∧ (∀ w, (Instr.checkKey true 10000 t (.agg xs)).run P w = .ok () w) ∧ (∀ w, (Instr.checkKey false 10000 t (.agg xs)).run P w = .ok () w)
structure Facts (P : Program) (T : Types) : Prop where
  ty : ∀ t ti, T t = some ti → TypeFact P t ti
  eq : ∀ t ti, T t = some ti → ti.eqOk = true → EqFact P t

/-- The tmps of a frame. -/
structure TR (C : Ctx) (t : Tmps) (a : Act) (n : Nat) : Prop where
  size : a.tmps.size = n
  defers : a.defers = []
  vr : ∀ i, VR C (tget t i) (a.tmps.getD i Go.undef)
theorem VR.undef (C : Ctx) : VR C AM.undef Go.undef := .tup [] #[] rfl fun i x v h => by simp at h
theorem TR.trans {C C' : Ctx} {t : Tmps} {a : Act} {n : Nat} (h : TR C t a n) (T : Trans C C') : TR C' t a n := ⟨h.size, h.defers, fun i => (h.vr i).trans T⟩
theorem TR.put {C : Ctx} {t : Tmps} {a : Act} {n : Nat} (h : TR C t a n) {dst : Option Tmp} (hd : ∀ d, dst = some d → d < n) {v : AV} {u : Value} (hv : VR C v u) : TR C (tput t dst v) (a.put dst u) n := by
  cases dst with
  | none => exact h
  | some d =>
    have hd' := hd d rfl
    refine ⟨by simp [Act.put, h.size], h.defers, fun i => ?_⟩
    unfold tput tget
    simp only [Act.put]
    rw [Tr.get_set]
    by_cases e : i = d
    · subst e
      rw [if_pos rfl]
      have : (a.tmps.setIfInBounds i u).getD i Go.undef = u := by
        rw [Array.getD_eq_getD_getElem?, Array.getElem?_setIfInBounds_self_of_lt (by rw [h.size]; exact hd')]; rfl
      rw [this]
      exact hv
    · rw [if_neg e]
      have : (a.tmps.setIfInBounds d u).getD i Go.undef = a.tmps.getD i Go.undef := by
        rw [Array.getD_eq_getD_getElem?, Array.getD_eq_getD_getElem?, Array.getElem?_setIfInBounds_ne (Ne.symm e)]
      rw [this]
      exact h.vr i
theorem VR.ofV {C : Ctx} {v : Value} {x : AV} (h : AM.ofV v = some x) : VR C x v := by
  unfold AM.ofV at h
  split at h <;> (try cases h)
  · exact .int _ _
  · exact .bool _
  · exact .str _ _ rfl
  · exact .nilp
  · exact VR.ofOne (v := .slice none 0 0) rfl
  · exact .nilf
section
variable {C : Ctx} {t : Tmps} {a : Act} {n : Nat}
theorem ev_ok (h : TR C t a n) {x : Operand} {y : AOpd} (hx : trOpd x = some y) : VR C (ev t y) (a.eval x) := by
  cases x with
  | tmp i => simp only [trOpd, Option.some.injEq] at hx; subst hx; exact h.vr i
  | const v =>
    simp only [trOpd, Option.map_eq_some_iff] at hx
    obtain ⟨y', h1, rfl⟩ := hx
    exact VR.ofV h1
  | func f => simp only [trOpd, Option.some.injEq] at hx; subst hx; exact .fn f [] #[] rfl fun i x v h => by simp at h
  | global g => simp [trOpd] at hx
theorem evs_ok (h : TR C t a n) : ∀ {l : List Operand} {l' : List AOpd}, trOpds l = some l' → l'.length = l.length ∧ ∀ (i : Nat) (x : AV) (v : Value), (evs t l')[i]? = some x → (l.map a.eval)[i]? = some v → VR C x v
  | [], l', hl => by
    simp only [trOpds, Option.some.injEq] at hl
    subst hl
    exact ⟨rfl, fun i x v h => by simp [evs] at h⟩
  | x :: l, l', hl => by
    simp only [trOpds, Option.bind_eq_some_iff] at hl
    obtain ⟨y, hy, ys, hys, hl⟩ := hl
    simp only [Option.some.injEq] at hl
    subst hl
    obtain ⟨h1, h2⟩ := evs_ok h hys
    refine ⟨by simp [h1], fun i z v hz hv => ?_⟩
    cases i with
    | zero =>
      simp only [evs, List.map_cons, List.getElem?_cons_zero, Option.some.injEq] at hz hv
      subst hz; subst hv
      exact ev_ok h hy
    | succ i => exact h2 i z v (by simpa [evs] using hz) (by simpa using hv)
end

/-- The operation goes as told: whatever goes on behind it from such a memory is reached. -/
def OpGood (P : Program) (o : Oper) (a : Act) (C : Ctx) (h' : Heap) (v : AV) : Prop :=
  ∀ (K : Act → World → Prop) (Q : Exit → Act → World → Prop), (∀ C' u, Trans C C' → Sim C' h' → VR C' v u → K (a.put o.dst u) C'.w) → o.wp P a C.w K Q
section
variable {P : Program} {o : Oper} {a : Act} {C C' : Ctx} {h h' : Heap} {v : AV} {u : Value}
theorem OpGood.value (hr : (execOp a.eval o).run P C.w = .ok (.value u) C'.w) (T : Trans C C') (S : Sim C' h') (hv : VR C' v u) : OpGood P o a C h' v := by
  intro K Q hK
  unfold Oper.wp
  rw [hr]
  exact hK C' u T S hv
theorem OpGood.skip (hr : (execOp a.eval o).run P C.w = .ok .skip C'.w) (T : Trans C C') (S : Sim C' h') : OpGood P o a C h' undef := by
  intro K Q hK
  unfold Oper.wp
  rw [hr]
  exact hK C' Go.undef T S (VR.undef _)
theorem OpGood.same (hr : (execOp a.eval o).run P C.w = .ok (.value u) C.w) (S : Sim C h) (hv : VR C v u) : OpGood P o a C h v := OpGood.value hr (Trans.refl C) S hv
end

/-! ### no memory -/
section
variable {P : Program} {T : Types} {o : Oper} {a : Act} {C : Ctx} {h : Heap} {t : Tmps} {n : Nat}
theorem op_mov {x : Operand} {x' : AOpd} (ho : o.op = .move x ∨ o.op = .assign x) (hx : trOpd x = some x') (S : Sim C h) (hT : TR C t a n) : OpGood P o a C h (ev t x') := by
  refine OpGood.same (u := a.eval x) ?_ S (ev_ok hT hx)
  rcases ho with ho | ho <;> simp [execOp, ho]
theorem op_nilc {x : Operand} {x' : AOpd} (ho : o.op = .nilCheck x) (hx : trOpd x = some x') (S : Sim C h) (hT : TR C t a n) {v : AV} (hv : ev t x' = v) (hk : (∃ i f, v = .ptr i f) ∨ (∃ i f g e, v = .eptr i f g e) ∨ ∃ e f, v = .iptr e f) : OpGood P o a C h v := by
  have hx' := ev_ok hT hx
  rw [hv] at hx'
  have : ∃ ad, a.eval x = .pointer (some ad) := by
    rcases hk with ⟨i, f, hk⟩ | ⟨i, f, g, e, hk⟩ | ⟨e, f, hk⟩ <;> (subst hk; clear hv; generalize a.eval x = u at hx'; cases hx'; exact ⟨_, rfl⟩)
  obtain ⟨ad, had⟩ := this
  refine OpGood.same (u := a.eval x) ?_ S hx'
  simp [execOp, ho, had]
theorem op_pick {c x y : Operand} {c' x' y' : AOpd} (ho : o.op = .pick c x y) (hc : trOpd c = some c') (hx : trOpd x = some x') (hy : trOpd y = some y') (S : Sim C h) (hT : TR C t a n) {r : Bool} (hr : ev t c' = .bool r) :
    OpGood P o a C h (bif r then ev t x' else ev t y') := by
  have hc' := ev_ok hT hc
  rw [hr] at hc'
  have hb : a.eval c = .bool r := by generalize a.eval c = u at hc'; cases hc'; rfl
  cases r with
  | true => exact OpGood.same (u := a.eval x) (by simp [execOp, ho, hb, asBool]) S (ev_ok hT hx)
  | false => exact OpGood.same (u := a.eval y) (by simp [execOp, ho, hb, asBool]) S (ev_ok hT hy)
theorem VR.int_inv {k : IntKind} {i : Int} {u : Value} (h : VR C (.int k i) u) : u = .int k i := by cases h; rfl
theorem VR.bool_inv {b : Bool} {u : Value} (h : VR C (.bool b) u) : u = .bool b := by cases h; rfl
theorem op_conv {x : Operand} {x' : AOpd} {s d : TypeId} {ts td : TI} {ks k : IntKind} (F : Facts P T) (ho : o.op = .convert s d x) (hs : T s = some ts) (hd : T d = some td) (hks : ts.kind = .int ks) (hk : td.kind = .int k) (hx : trOpd x = some x') (S : Sim C h) (hT : TR C t a n) {j : IntKind} {i : Int} (hv : ev t x' = .int j i) :
    OpGood P o a C h (.int k (k.wrap i)) := by
  have hx' := ev_ok hT hx
  rw [hv] at hx'
  have hu := VR.int_inv hx'
  obtain ⟨ds, hds, hds'⟩ := (F.ty s ts hs).desc
  obtain ⟨dd, hdd, hdd'⟩ := (F.ty d td hd).desc
  have e1 : ds = .int ks := by
    rw [hks] at hds'
    cases ds <;> simp_all [descB]
  have e2 : dd = .int k := by
    rw [hk] at hdd'
    cases dd <;> simp_all [descB]
  subst e1; subst e2
  refine OpGood.same (u := .int k (k.wrap i)) ?_ S (.int _ _)
  simp [execOp, ho, hu, convert, underlying, hds, hdd, Conv.intToInt]
theorem op_un {x : Operand} {x' : AOpd} {u : UnOp} {ty : TypeId} (ho : o.op = .unOp u ty x) (hx : trOpd x = some x') (S : Sim C h) (hT : TR C t a n) {v : AV} (hv : unOp u (ev t x') = some v) : OpGood P o a C h v := by
  have hx' := ev_ok hT hx
  unfold unOp at hv
  split at hv
  · rename_i b hb
    rw [hb] at hx'
    have hu := VR.bool_inv hx'
    cases hv
    exact OpGood.same (u := .bool (!b)) (by simp [execOp, ho, hu, Op.unary]) S (.bool _)
  · rename_i k m hb
    rw [hb] at hx'
    have hu := VR.int_inv hx'
    cases hv
    exact OpGood.same (u := .int k (k.wrap (0 - m))) (by simp [execOp, ho, hu, Op.unary, Op.intArith]) S (.int _ _)
  · cases hv
/-- A number or a truth as the model has it. -/
def plainV : AV → Value
  | .int k n => .int k n
  | .bool b => .bool b
  | _ => Go.undef
theorem run_intOp (P : Program) {op : BinOp} {k : IntKind} {x y : Int} {v : AV} (hv : intOp op k x y = some v) (ty : TypeId) (w : World) : (Go.binOp op ty (.int k x) (.int k y)).run P w = .ok (plainV v) w ∧ ∀ C : Ctx, VR C v (plainV v) := by
  cases op <;> simp only [intOp, reduceCtorEq] at hv <;> first
    | (split at hv
       · cases hv
       · rename_i h0; cases hv; exact ⟨by simp [Go.binOp, Op.intDiv, h0, plainV], fun C => .int _ _⟩)
    | (cases hv; exact ⟨by simp only [Go.binOp, ne_eq, not_true_eq_false, if_false]; rfl, fun C => by first | exact .int _ _ | exact .bool _⟩)
theorem run_shiftOp (P : Program) {op : BinOp} {k j : IntKind} {x y : Int} {v : AV} (hv : shiftOp op k x y = some v) (ty : TypeId) (w : World) : (Go.binOp op ty (.int k x) (.int j y)).run P w = .ok (plainV v) w ∧ ∀ C : Ctx, VR C v (plainV v) := by
  unfold shiftOp at hv
  split at hv
  · cases hv
  · rename_i h0
    cases op <;> simp only [reduceCtorEq] at hv <;> (cases hv; exact ⟨by simp [Go.binOp, Op.shift, h0, plainV], fun C => .int _ _⟩)
theorem uint8_inj {a b : UInt8} (h : ((a.toNat : Nat) : Int) = (b.toNat : Int)) : a = b := UInt8.toNat_inj.1 (by omega)
theorem map_inj : ∀ {a b : List UInt8}, a.map (fun b => (b.toNat : Int)) = b.map (fun b => (b.toNat : Int)) → a = b
  | [], [], _ => rfl
  | x :: a, y :: b, h => by
    simp only [List.map_cons, List.cons.injEq] at h
    rw [uint8_inj h.1, map_inj h.2]
  | [], _ :: _, h => by simp at h
  | _ :: _, [], h => by simp at h
theorem str_eq {l m : List Int} {s q : ByteArray} (hs : s.data.toList.map (fun b => (b.toNat : Int)) = l) (hq : q.data.toList.map (fun b => (b.toNat : Int)) = m) : (s.toList == q.toList) = decide (l = m) := by
  rw [ByteArray.toList_eq, ByteArray.toList_eq, Bool.eq_iff_iff, beq_iff_eq, decide_eq_true_eq]
  constructor
  · intro h; rw [← hs, ← hq, h]
  · intro h; exact map_inj (by rw [hs, hq, h])
theorem run_eqGuard_int (P : Program) (op : BinOp) (ty : TypeId) (x y : Operand) (k j : IntKind) (i m : Int) (w : World) : (eqGuard op ty x y (.int k i) (.int j m)).run P w = .ok () w := by
  unfold eqGuard; cases op <;> rfl
theorem run_eqGuard_str (P : Program) (op : BinOp) (ty : TypeId) (x y : Operand) (s q : ByteArray) (w : World) : (eqGuard op ty x y (.string s) (.string q)).run P w = .ok () w := by
  unfold eqGuard; cases op <;> rfl
theorem op_bin {op : BinOp} {ty ty' : TypeId} {x y : Operand} {x' y' : AOpd} (ho : o.op = .binOp op ty x y ty') (hx : trOpd x = some x') (hy : trOpd y = some y') (S : Sim C h) (hT : TR C t a n) {v : AV} (hv : binOp op (ev t x') (ev t y') = some v) : OpGood P o a C h v := by
  have hx' := ev_ok hT hx
  have hy' := ev_ok hT hy
  unfold binOp at hv
  split at hv
  · rename_i k i j m hex hey
    rw [hex] at hx'
    rw [hey] at hy'
    have hu := VR.int_inv hx'
    have hw := VR.int_inv hy'
    have key : (Go.binOp op ty (.int k i) (.int j m)).run P C.w = .ok (plainV v) C.w ∧ ∀ C : Ctx, VR C v (plainV v) := by
      split at hv
      · exact run_shiftOp P hv ty C.w
      · exact run_shiftOp P hv ty C.w
      · split at hv
        · rename_i hk; subst hk; exact run_intOp P hv ty C.w
        · cases hv
    exact OpGood.same (u := plainV v) (by simp [execOp, ho, hu, hw, run_eqGuard_int, key.1]) S (key.2 C)
  · rename_i l m hex hey
    rw [hex] at hx'
    rw [hey] at hy'
    have hu : ∃ s, a.eval x = .string s ∧ s.data.toList.map (fun b => (b.toNat : Int)) = l := by generalize a.eval x = u at hx'; cases hx'; exact ⟨_, rfl, by assumption⟩
    have hw : ∃ s, a.eval y = .string s ∧ s.data.toList.map (fun b => (b.toNat : Int)) = m := by generalize a.eval y = u at hy'; cases hy'; exact ⟨_, rfl, by assumption⟩
    obtain ⟨s, hu, hs⟩ := hu
    obtain ⟨q, hw, hq⟩ := hw
    have he := str_eq hs hq
    split at hv
    · cases hv
      exact OpGood.same (u := .bool (decide (l = m))) (by simp only [execOp, ho, hu, hw]; simp [run_eqGuard_str, Go.binOp, Op.stringOp, he]) S (.bool _)
    · cases hv
      exact OpGood.same (u := .bool (!decide (l = m))) (by simp only [execOp, ho, hu, hw]; simp [run_eqGuard_str, Go.binOp, Op.stringOp, he]) S (.bool _)
    · cases hv
  · cases hv
/-- The kinds of types, as the model has them. -/
theorem desc_int {d : TypeDesc} {k : IntKind} {g : Bool} (h : descB (.int k) g d = true) : d = .int k ∧ g = false := by cases d <;> simp_all [descB]
theorem desc_bool {d : TypeDesc} {g : Bool} (h : descB .bool g d = true) : d = .bool ∧ g = false := by cases d <;> simp_all [descB]
theorem desc_string {d : TypeDesc} {g : Bool} (h : descB .string g d = true) : d = .string ∧ g = false := by cases d <;> simp_all [descB]
theorem desc_slice {d : TypeDesc} {e : TypeId} {g : Bool} (h : descB (.slice e) g d = true) : d = .slice e ∧ g = false := by cases d <;> simp_all [descB]
theorem desc_ptr {d : TypeDesc} {g : Bool} (h : descB .ptr g d = true) : (∃ e, d = .pointer e) ∧ g = false := by cases d <;> simp_all [descB]
theorem desc_arr {d : TypeDesc} {n : Nat} {e : TypeId} {g : Bool} (h : descB (.arr n e) g d = true) : d = .array n e ∧ g = true := by cases d <;> simp_all [descB]
theorem desc_map {d : TypeDesc} {k e : TypeId} {g : Bool} (h : descB (.map k e) g d = true) : d = .map k e ∧ g = false := by cases d <;> simp_all [descB]
theorem desc_struct {d : TypeDesc} {fs : List (Nat × TypeId)} {g : Bool} (h : descB (.struct fs) g d = true) : ∃ gs : Array Field, d = .struct gs ∧ g = true ∧ gs.toList.map (fun f => (f.offset, f.type)) = fs := by cases d <;> simp_all [descB]
theorem Facts.und (F : Facts P T) {ty : TypeId} {ti : TI} (h : T ty = some ti) : ∃ d, P.underlying ty = some d ∧ descB ti.kind ti.agg d = true := (F.ty ty ti h).desc
theorem Facts.slice (F : Facts P T) {ty : TypeId} {ti : TI} (h : T ty = some ti) {e : TypeId} (hk : ti.kind = .slice e) : P.underlying ty = some (.slice e) := by
  obtain ⟨d, h1, h2⟩ := F.und h; rw [hk] at h2; rw [h1, (desc_slice h2).1]
theorem Facts.str (F : Facts P T) {ty : TypeId} {ti : TI} (h : T ty = some ti) (hk : ti.kind = .string) : P.underlying ty = some .string := by
  obtain ⟨d, h1, h2⟩ := F.und h; rw [hk] at h2; rw [h1, (desc_string h2).1]
theorem Facts.size (F : Facts P T) {ty : TypeId} {ti : TI} (h : T ty = some ti) (w : World) : (sizeOf ty).run P w = .ok ti.size w := by
  obtain ⟨i, zv, h1, h2, _⟩ := (F.ty ty ti h).info
  simp [sizeOf, typeInfo, h1, h2]
theorem Facts.agg (F : Facts P T) {ty : TypeId} {ti : TI} (h : T ty = some ti) (w : World) : (isAgg ty).run P w = .ok ti.agg w := by
  obtain ⟨d, h1, h2⟩ := F.und h
  cases d <;> simp_all [isAgg, underlying, descB]
theorem Facts.zero (F : Facts P T) {ty : TypeId} {ti : TI} (h : T ty = some ti) : ∃ zv, (∀ w, (zeroValue ty).run P w = .ok zv w) ∧ ∀ C : Ctx, VR C ti.zero zv := by
  obtain ⟨i, zv, h1, h2, h3, h4, h5⟩ := (F.ty ty ti h).info
  exact ⟨zv, fun w => by simp [zeroValue, typeInfo, h1, h4], fun C => VR.ofZ h5⟩
theorem bound_ok {t : Tmps} {m d r : Nat} {x : Option Operand} {x' : Option AOpd} (hx : trOpt x = some x') (hT : TR C t a n) (hb : bound t m x' d = some r) :
    (x = none ∧ x' = none ∧ r = d) ∨ ∃ y k, x = some y ∧ a.eval y = .int k r ∧ r ≤ m := by
  cases x with
  | none =>
    simp only [trOpt, Option.some.injEq] at hx
    subst hx
    simp only [bound, Option.some.injEq] at hb
    exact .inl ⟨rfl, rfl, hb.symm⟩
  | some y =>
    simp only [trOpt, Option.map_eq_some_iff] at hx
    obtain ⟨y', hy, rfl⟩ := hx
    simp only [bound, Option.bind_eq_some_iff] at hb
    obtain ⟨q, hq, hb⟩ := hb
    have hy' := ev_ok hT hy
    unfold natOf at hq
    split at hq
    · rename_i k q' he
      cases hq
      rw [he] at hy'
      have hu := VR.int_inv hy'
      cases hle : Nat.ble q m with
      | true =>
        rw [hle] at hb
        simp only [cond_true, Option.some.injEq] at hb
        subst hb
        exact .inr ⟨y, k, rfl, hu, Nat.le_of_ble_eq_true hle⟩
      | false => rw [hle] at hb; simp at hb
    · cases hq
theorem natOf_ok {x : Operand} {x' : AOpd} {m : Nat} (hx : trOpd x = some x') (hT : TR C t a n) (hm : natOf (ev t x') = some m) : ∃ k, a.eval x = .int k m ∧ ev t x' = .int k m := by
  have hx' := ev_ok hT hx
  unfold natOf at hm
  split at hm
  · rename_i k q he
    cases hm
    rw [he] at hx'
    exact ⟨k, VR.int_inv hx', he⟩
  · cases hm
theorem run_bound {y : Value} {k : IntKind} {r m : Nat} (h : y = .int k r) (hm : r ≤ m) (code : BoundsCode) (w : World) : (Instr.sliceBound y m code).run P w = .ok r w := by
  subst h
  have h1 : (0 : Int) ≤ (r : Int) ∧ (r : Int) ≤ (m : Int) := by omega
  simp [Instr.sliceBound, asIntOf, h1]
end
end Go.AM
