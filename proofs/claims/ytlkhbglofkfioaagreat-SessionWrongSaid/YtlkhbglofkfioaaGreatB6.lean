/- The abstract machine alone: what an operation reads, and what it leaves. -/
import Derived.Test.YtlkhbglofkfioaaGreatB5
set_option linter.unusedVariables false
set_option linter.unusedSimpArgs false
namespace Go.AM
open Go
section
variable {t t' : Tmps} {h h' : Heap} {call : CallF}

/-! ### what is read -/
theorem ev_congr {x : AOpd} (H : ∀ r ∈ x.reads, tget t r = tget t' r) : ev t x = ev t' x := by
  cases x with
  | t n => exact H n (by simp [AOpd.reads])
  | c v => rfl
theorem evs_congr {l : List AOpd} (H : ∀ r ∈ l.flatMap AOpd.reads, tget t r = tget t' r) : evs t l = evs t' l := by
  unfold evs
  exact List.map_congr_left fun x hx => ev_congr fun r hr => H r (List.mem_flatMap.2 ⟨x, hx, hr⟩)
theorem bound_congr {x : Option AOpd} {m d : Nat} (H : ∀ r ∈ optReads x, tget t r = tget t' r) : bound t m x d = bound t' m x d := by
  cases x with
  | none => rfl
  | some x => simp only [bound, ev_congr (x := x) H]
theorem fill_congr : ∀ {ps : List (Nat × Nat × AOpd)} {cs : List AV}, (∀ r ∈ ps.flatMap (fun p => p.2.2.reads), tget t r = tget t' r) → fill t ps cs = fill t' ps cs
  | [], cs, _ => rfl
  | (off, n, x) :: ps, cs, H => by
    have hx := ev_congr (t := t) (t' := t') (x := x) fun r hr => H r (by simp [hr])
    simp only [fill, hx]
    rw [fill_congr fun r hr => H r (by simp only [List.flatMap_cons, List.mem_append]; exact .inr hr)]
theorem fillEls_congr {sz : Nat} : ∀ {ps : List (Nat × AOpd)} {els : List AV}, (∀ r ∈ ps.flatMap (fun p => p.2.reads), tget t r = tget t' r) → fillEls t sz ps els = fillEls t' sz ps els
  | [], els, _ => rfl
  | (i, x) :: ps, els, H => by
    have hx := ev_congr (t := t) (t' := t') (x := x) fun r hr => H r (by simp [hr])
    simp only [fillEls, hx]
    rw [fillEls_congr fun r hr => H r (by simp only [List.flatMap_cons, List.mem_append]; exact .inr hr)]
theorem sliceOf_congr {sz : Nat} {v : AV} {lo hi mx : Option AOpd} (H1 : ∀ r ∈ optReads lo, tget t r = tget t' r) (H2 : ∀ r ∈ optReads hi, tget t r = tget t' r) (H3 : ∀ r ∈ optReads mx, tget t r = tget t' r) : sliceOf t sz v lo hi mx = sliceOf t' sz v lo hi mx := by
  cases v with
  | sl els tag =>
    simp only [sliceOf]
    cases mx with
    | none => simp only [bound_congr H1, bound_congr H2]
    | some m =>
      have h3 : ∀ k d, bound t k (some m) d = bound t' k (some m) d := fun k d => bound_congr H3
      simp only [bound_congr H1, bound_congr H2, h3]
  | ob id ver sz' off len =>
    simp only [sliceOf]
    cases mx with
    | none => simp only [bound_congr H1, bound_congr H2]
    | some m =>
      have h3 : ∀ k d, bound t k (some m) d = bound t' k (some m) d := fun k d => bound_congr H3
      simp only [bound_congr H1, bound_congr H2, h3]
  | _ => rfl
theorem sliceStr_congr {v : AV} {lo hi mx : Option AOpd} (H1 : ∀ r ∈ optReads lo, tget t r = tget t' r) (H2 : ∀ r ∈ optReads hi, tget t r = tget t' r) : sliceStr t v lo hi mx = sliceStr t' v lo hi mx := by
  unfold sliceStr
  simp only [bound_congr H1, bound_congr H2]
theorem aop_congr {op : AOp} (H : ∀ r ∈ op.reads, tget t r = tget t' r) : aop call t h op = aop call t' h op := by
  cases op with
  | mov x => simp only [aop, ev_congr (x := x) H]
  | nilc x => simp only [aop, ev_congr (x := x) H]
  | un _ x => simp only [aop, ev_congr (x := x) H]
  | conv _ x => simp only [aop, ev_congr (x := x) H]
  | convs x => simp only [aop, ev_congr (x := x) H]
  | box x => simp only [aop, ev_congr (x := x) H]
  | load _ _ x => simp only [aop, ev_congr (x := x) H]
  | fadr _ x => simp only [aop, ev_congr (x := x) H]
  | fld _ _ _ x => simp only [aop, ev_congr (x := x) H]
  | ext x _ => simp only [aop, ev_congr (x := x) H]
  | len _ x => simp only [aop, ev_congr (x := x) H]
  | cap x => simp only [aop, ev_congr (x := x) H]
  | clear _ _ x => simp only [aop, ev_congr (x := x) H]
  | bin _ x y => simp only [AOp.reads, List.mem_append] at H; simp only [aop, ev_congr (x := x) fun r hr => H r (.inl hr), ev_congr (x := y) fun r hr => H r (.inr hr)]
  | eq _ _ x y => simp only [AOp.reads, List.mem_append] at H; simp only [aop, ev_congr (x := x) fun r hr => H r (.inl hr), ev_congr (x := y) fun r hr => H r (.inr hr)]
  | store _ x y => simp only [AOp.reads, List.mem_append] at H; simp only [aop, ev_congr (x := x) fun r hr => H r (.inl hr), ev_congr (x := y) fun r hr => H r (.inr hr)]
  | iadr _ x y => simp only [AOp.reads, List.mem_append] at H; simp only [aop, ev_congr (x := x) fun r hr => H r (.inl hr), ev_congr (x := y) fun r hr => H r (.inr hr)]
  | iadra _ _ x y => simp only [AOp.reads, List.mem_append] at H; simp only [aop, ev_congr (x := x) fun r hr => H r (.inl hr), ev_congr (x := y) fun r hr => H r (.inr hr)]
  | sidx x y => simp only [AOp.reads, List.mem_append] at H; simp only [aop, ev_congr (x := x) fun r hr => H r (.inl hr), ev_congr (x := y) fun r hr => H r (.inr hr)]
  | mksl _ _ _ x y => simp only [AOp.reads, List.mem_append] at H; simp only [aop, ev_congr (x := x) fun r hr => H r (.inl hr), ev_congr (x := y) fun r hr => H r (.inr hr)]
  | lkup _ _ _ x y => simp only [AOp.reads, List.mem_append] at H; simp only [aop, ev_congr (x := x) fun r hr => H r (.inl hr), ev_congr (x := y) fun r hr => H r (.inr hr)]
  | app _ _ _ x y => simp only [AOp.reads, List.mem_append] at H; simp only [aop, ev_congr (x := x) fun r hr => H r (.inl hr), ev_congr (x := y) fun r hr => H r (.inr hr)]
  | appz _ _ _ x y => simp only [AOp.reads, List.mem_append] at H; simp only [aop, ev_congr (x := x) fun r hr => H r (.inl hr), ev_congr (x := y) fun r hr => H r (.inr hr)]
  | copy _ x y => simp only [AOp.reads, List.mem_append] at H; simp only [aop, ev_congr (x := x) fun r hr => H r (.inl hr), ev_congr (x := y) fun r hr => H r (.inr hr)]
  | minmax _ x y => simp only [AOp.reads, List.mem_append] at H; simp only [aop, ev_congr (x := x) fun r hr => H r (.inl hr), ev_congr (x := y) fun r hr => H r (.inr hr)]
  | pick c x y =>
    simp only [AOp.reads, List.mem_append] at H
    simp only [aop, ev_congr (x := c) fun r hr => H r (.inl (.inl hr)), ev_congr (x := x) fun r hr => H r (.inl (.inr hr)), ev_congr (x := y) fun r hr => H r (.inr hr)]
  | mupd _ c x y =>
    simp only [AOp.reads, List.mem_append] at H
    simp only [aop, ev_congr (x := c) fun r hr => H r (.inl (.inl hr)), ev_congr (x := x) fun r hr => H r (.inl (.inr hr)), ev_congr (x := y) fun r hr => H r (.inr hr)]
  | alloc _ => rfl
  | mkmap => rfl
  | no => rfl
  | build _ ps => simp only [aop, fill_congr (ps := ps) H]
  | bsl _ _ _ _ ps => simp only [aop, fillEls_congr (ps := ps) H]
  | slc _ x lo hi mx =>
    simp only [AOp.reads, List.mem_append] at H
    simp only [aop, ev_congr (x := x) fun r hr => H r (.inl (.inl (.inl hr))), sliceOf_congr (lo := lo) (hi := hi) (mx := mx) (fun r hr => H r (.inl (.inl (.inr hr)))) (fun r hr => H r (.inl (.inr hr))) (fun r hr => H r (.inr hr))]
  | slcs x lo hi mx =>
    simp only [AOp.reads, List.mem_append] at H
    simp only [aop, ev_congr (x := x) fun r hr => H r (.inl (.inl (.inl hr))), sliceStr_congr (lo := lo) (hi := hi) (mx := mx) (fun r hr => H r (.inl (.inl (.inr hr)))) (fun r hr => H r (.inl (.inr hr)))]
  | mkfn _ xs => simp only [aop, evs_congr (l := xs) H]
  | call _ xs => simp only [aop, evs_congr (l := xs) H]
  | callv x xs =>
    simp only [AOp.reads, List.mem_append] at H
    simp only [aop, ev_congr (x := x) fun r hr => H r (.inl hr), evs_congr (l := xs) fun r hr => H r (.inr hr)]

/-! ### what touches no memory -/
def AOp.pure : AOp → Bool
  | .mov _ | .nilc _ | .pick .. | .bin .. | .eq .. | .un .. | .conv .. | .build .. | .fadr .. | .fld .. | .iadr .. | .iadra .. | .sidx .. | .slc .. | .slcs .. | .ext .. | .mkfn .. | .len .. | .cap .. | .minmax .. | .no => true
  | .bsl _ _ _ own _ => !own
  | _ => false
theorem bind_h {α : Type} (z : Option α) (f : α → AV) (h : Heap) : (z.bind fun v => some (f v, h)) = (z.map f).map fun v => (v, h) := by cases z <;> rfl
theorem aop_pure {op : AOp} (hp : op.pure = true) : ∃ r : Option AV, ∀ h, aop call t h op = r.map fun v => (v, h) := by
  cases op with
  | mov x => exact ⟨some (ev t x), fun h => rfl⟩
  | nilc x => refine ⟨match ev t x with | .ptr id off => some (.ptr id off) | .eptr id ver i off => some (.eptr id ver i off) | .iptr e off => some (.iptr e off) | _ => none, fun h => ?_⟩; simp only [aop]; cases ev t x <;> rfl
  | pick c x y => refine ⟨match ev t c with | .bool r => some (bif r then ev t x else ev t y) | _ => none, fun h => ?_⟩; simp only [aop]; cases ev t c <;> rfl
  | bin op x y => exact ⟨(binOp op (ev t x) (ev t y)).map id, fun h => bind_h _ _ _⟩
  | eq k neg x y => exact ⟨(eqOp k (ev t x) (ev t y)).map fun r => .bool (bif neg then !r else r), fun h => bind_h _ _ _⟩
  | un op x => exact ⟨(unOp op (ev t x)).map id, fun h => bind_h _ _ _⟩
  | conv k x => refine ⟨match ev t x with | .int _ n => some (.int k (k.wrap n)) | _ => none, fun h => ?_⟩; simp only [aop]; cases ev t x <;> rfl
  | build z ps => exact ⟨(fill t ps z).map fun cs => .agg cs, fun h => bind_h _ _ _⟩
  | bsl z len sz own ps =>
    cases own with
    | true => cases hp
    | false => exact ⟨(fillEls t sz ps (List.replicate len z)).map fun els => .sl els .full, fun h => bind_h _ _ _⟩
  | fadr off x => refine ⟨match ev t x with | .ptr id o => some (.ptr id (o + off)) | .eptr id ver i o => some (.eptr id ver i (o + off)) | .iptr e o => some (.iptr e (o + off)) | _ => none, fun h => ?_⟩; simp only [aop]; cases ev t x <;> rfl
  | fld agg off n x =>
    refine ⟨match ev t x with | .agg cs => slots cs agg off n | _ => none, fun h => ?_⟩
    simp only [aop]
    cases ev t x with
    | agg cs => simp only; cases slots cs agg off n <;> rfl
    | _ => rfl
  | iadr sz x i =>
    refine ⟨(natOf (ev t i)).bind fun n => match ev t x with
      | .sl els _ => (els[n]?).bind fun e => bif headSz sz els then some (.iptr e 0) else none
      | .ob id ver sz' off len => bif Nat.blt n len && Nat.beq sz sz' then some (.eptr id ver (off + n) 0) else none
      | _ => none, fun h => ?_⟩
    simp only [aop]
    cases natOf (ev t i) with
    | none => rfl
    | some n =>
      simp only [Option.bind_some]
      cases ev t x with
      | sl els tag => simp only; cases els[n]? <;> cases headSz sz els <;> rfl
      | ob id ver sz' off len => simp only; cases (Nat.blt n len && Nat.beq sz sz') <;> rfl
      | _ => rfl
  | iadra len sz x i =>
    refine ⟨(natOf (ev t i)).bind fun n => bif Nat.blt n len then (match ev t x with | .ptr id off => some (.ptr id (off + n * sz)) | _ => none) else none, fun h => ?_⟩
    simp only [aop]
    cases natOf (ev t i) with
    | none => rfl
    | some n => simp only [Option.bind_some]; cases Nat.blt n len <;> cases ev t x <;> rfl
  | sidx x i =>
    refine ⟨(natOf (ev t i)).bind fun n => match ev t x with | .str l => (l[n]?).map fun c => .int .u8 c | _ => none, fun h => ?_⟩
    simp only [aop]
    cases natOf (ev t i) with
    | none => rfl
    | some n =>
      simp only [Option.bind_some]
      cases ev t x with
      | str l => simp only; cases l[n]? <;> rfl
      | _ => rfl
  | slc sz x lo hi mx => exact ⟨(sliceOf t sz (ev t x) lo hi mx).map id, fun h => bind_h _ _ _⟩
  | slcs x lo hi mx => exact ⟨(sliceStr t (ev t x) lo hi mx).map id, fun h => bind_h _ _ _⟩
  | ext x i =>
    refine ⟨match ev t x with | .tup vs => vs[i]? | _ => none, fun h => ?_⟩
    simp only [aop]
    cases ev t x with
    | tup vs => simp only; cases vs[i]? <;> rfl
    | _ => rfl
  | mkfn f cap => exact ⟨some (.fn f (evs t cap)), fun h => rfl⟩
  | len b x => exact ⟨(lenOf b (ev t x)).map fun (n : Nat) => AV.int .i64 (n : Int), fun h => by simp only [aop]; cases lenOf b (ev t x) <;> rfl⟩
  | cap x =>
    refine ⟨match ev t x with | .sl els .nil => some (.int .i64 els.length) | .sl els .full => some (.int .i64 els.length) | _ => none, fun h => ?_⟩
    simp only [aop]
    cases ev t x with
    | sl els tag => cases tag <;> rfl
    | _ => rfl
  | minmax mx x y =>
    refine ⟨match ev t x, ev t y with
      | .int k a, .int j b => if k = j then some (.int k (if mx then (if a < b then b else a) else (if b < a then b else a))) else none
      | _, _ => none, fun h => ?_⟩
    simp only [aop]
    cases ev t x <;> cases ev t y <;> first | rfl | (simp only; split <;> rfl)
  | no => exact ⟨none, fun h => rfl⟩
  | _ => cases hp

/-! ### what looks at one object -/
theorem load_at {agg : Bool} {n : Nat} {x : AV} {id : Nat} (hs : (match x with | .ptr id _ => some id | .eptr id _ _ _ => some id | _ => none) = some id) (hg : h.get id = h'.get id) : loadAt h agg n x = loadAt h' agg n x := by
  cases x with
  | ptr id' off => cases hs; simp only [loadAt, hg]
  | eptr id' ver i off => cases hs; simp only [loadAt, arrAt, hg]
  | _ => cases hs
theorem load_none {agg : Bool} {n : Nat} {x : AV} (hs : (match x with | .ptr id _ => some id | .eptr id _ _ _ => some id | _ => none) = (none : Option Nat)) : loadAt h agg n x = loadAt h' agg n x := by
  cases x with
  | ptr id' off => cases hs
  | eptr id' ver i off => cases hs
  | _ => rfl
def AOp.peeks : AOp → Bool
  | .load .. | .lkup .. | .convs .. => true
  | _ => false
/-- An operation that looks: its value is told by the one object. -/
theorem aop_look {op : AOp} (hp : op.peeks = true) (hg : ∀ id, seenId t op = some id → h.get id = h'.get id) : (aop call t h op).map Prod.fst = (aop call t h' op).map Prod.fst ∧ ∀ v h1, aop call t h op = some (v, h1) → h1 = h := by
  cases op with
  | load agg n x =>
    have e : loadAt h agg n (ev t x) = loadAt h' agg n (ev t x) := by
      cases hs : seenId t (.load agg n x) with
      | none => exact load_none hs
      | some id => exact load_at hs (hg id hs)
    refine ⟨?_, fun v h1 hv => ?_⟩
    · simp only [aop, e]
      cases loadAt h' agg n (ev t x) <;> rfl
    · simp only [aop, Option.bind_eq_some_iff, Option.some.injEq, Prod.mk.injEq] at hv
      obtain ⟨_, _, _, rfl⟩ := hv; rfl
  | convs x =>
    have e : elsOf h (ev t x) = elsOf h' (ev t x) := by
      cases hx : ev t x with
      | ob id ver sz off len =>
        have := hg id (by simp only [seenId, hx])
        simp only [elsOf, arrAt, this]
      | _ => rfl
    refine ⟨?_, fun v h1 hv => ?_⟩
    · simp only [aop, e]
      cases elsOf h' (ev t x) with
      | none => rfl
      | some els => simp only [Option.bind_some]; cases strOf els <;> rfl
    · simp only [aop, Option.bind_eq_some_iff, Option.some.injEq, Prod.mk.injEq] at hv
      obtain ⟨_, _, _, _, _, rfl⟩ := hv; rfl
  | lkup agg z ok m k =>
    refine ⟨?_, fun v h1 hv => ?_⟩
    · simp only [aop]
      cases hx : ev t m with
      | mp id =>
        have := hg id (by simp only [seenId, hx])
        simp only [this]
        split
        · rename_i es _ _ _
          cases lookupOk agg (ev t k) es with
          | none => rfl
          | some r => cases r <;> rfl
        · rfl
      | _ => rfl
    · simp only [aop] at hv
      split at hv
      · split at hv
        · rename_i es _ _ _
          obtain ⟨r, _, hv⟩ := bind2 hv
          cases r <;> (cases hv; rfl)
        · cases hv
      · cases hv
  | _ => cases hp

/-! ### what memory becomes -/
def Fresh (h : Heap) : Prop := ∀ id, h.next ≤ id → h.get id = none
/-- Every object is as it was, or was written once more. -/
structure Later (h h' : Heap) : Prop where
  fresh : Fresh h'
  next : h.next ≤ h'.next
  obj : ∀ id e, h.get id = some e → ∃ e', h'.get id = some e' ∧ e.st ≤ e'.st ∧ (e'.st = e.st → e' = e)
theorem Later.refl (hf : Fresh h) : Later h h := ⟨hf, Nat.le_refl _, fun id e he => ⟨e, he, Nat.le_refl _, fun _ => rfl⟩⟩
theorem Later.trans {h1 h2 h3 : Heap} (A : Later h1 h2) (B : Later h2 h3) : Later h1 h3 :=
  ⟨B.fresh, Nat.le_trans A.next B.next, fun id e he => by
    obtain ⟨e2, h2', l2, q2⟩ := A.obj id e he
    obtain ⟨e3, h3', l3, q3⟩ := B.obj id e2 h2'
    exact ⟨e3, h3', by omega, fun hq => by
      have h4 : e2.st = e.st := by omega
      have h5 := q2 h4
      subst h5
      exact q3 hq⟩⟩
theorem Later.push (hf : Fresh h) (e : Ent) : Later h (h.push e) := by
  refine ⟨fun id hid => ?_, Nat.le_succ _, fun id e' he => ⟨e', ?_, Nat.le_refl _, fun _ => rfl⟩⟩
  · have hid' : h.next + 1 ≤ id := hid
    rw [Heap.get_push, if_neg (by omega)]
    exact hf id (by omega)
  · rw [Heap.get_push, if_neg]
    · exact he
    · intro e1
      subst e1
      rw [hf _ (Nat.le_refl _)] at he
      cases he
theorem Later.put (hf : Fresh h) {id : Nat} {e0 e : Ent} (h0 : h.get id = some e0) (hs : e0.st < e.st) : Later h (h.put id e) := by
  refine ⟨fun j hj => ?_, Nat.le_refl _, fun j e' he => ?_⟩
  · rw [Heap.get_put, if_neg (fun e1 => by subst e1; rw [hf _ hj] at h0; cases h0)]
    exact hf j hj
  · rw [Heap.get_put]
    by_cases hj : j = id
    · subst hj
      rw [h0] at he
      cases he
      rw [if_pos rfl]
      exact ⟨e, rfl, by omega, fun hq => by omega⟩
    · rw [if_neg hj]
      exact ⟨e', he, Nat.le_refl _, fun _ => rfl⟩
def CallLater (call : CallF) : Prop := ∀ f args h v h', call f args h = some (v, h') → Fresh h → Later h h'
theorem appendTo_later {sz bytes : Nat} {ro : Bool} {x v : AV} {ys : List AV} (hv : appendTo h sz bytes ro x ys = some (v, h')) (hf : Fresh h) : Later h h' := by
  unfold appendTo at hv
  split at hv
  · split at hv
    · cases hv; exact Later.refl hf
    · cases hv; exact Later.refl hf
    · cases hv
  · split at hv
    · split at hv
      · cases hv
      · rename_i els tag hne hnt
        cases hb : (Nat.ble ((els.length + ys.length) * bytes) room && sized sz ys && sized sz els) with
        | false => rw [hb] at hv; cases hv
        | true => rw [hb] at hv; cases hv; exact Later.push hf _
    · split at hv
      · rename_i id ver _ off len _ sz' els st hg
        have h0 := arrAt_get hg
        cases hb : (Nat.beq sz' sz && Nat.ble (off + len) els.length && Nat.ble ((len + ys.length) * bytes) room && sized sz ys) with
        | false => simp only [hb] at hv; cases hv
        | true =>
          simp only [hb, cond_true] at hv
          cases ro with
          | true =>
            simp only [cond_true] at hv
            cases hbe : Nat.beq (off + len) els.length with
            | false => rw [hbe] at hv; cases hv
            | true => rw [hbe] at hv; cases hv; exact Later.put hf h0 (Nat.lt_succ_self _)
          | false => simp only [cond_false] at hv; cases hv; exact Later.put hf h0 (Nat.lt_succ_self _)
      · cases hv
    · cases hv
theorem storeAt_later {n : Nat} {x p : AV} (hv : storeAt h n x p = some h') (hf : Fresh h) : Later h h' := by
  unfold storeAt at hv
  split at hv
  · split at hv
    · rename_i id off _ cs v st hg
      cases hb : (Nat.beq x.cells.length n && Nat.ble (off + n) cs.length && scalars x.cells) with
      | false => rw [hb] at hv; cases hv
      | true => rw [hb] at hv; cases hv; exact Later.put hf hg (Nat.lt_succ_self _)
    · cases hv
  · rename_i id ver i off
    simp only [Option.bind_eq_some_iff] at hv
    obtain ⟨⟨sz, els, ro, st⟩, hg, e, he, hv⟩ := hv
    have h0 := arrAt_get hg
    cases hb : (!ro && Nat.beq x.cells.length n && Nat.ble (off + n) e.cells.length && scalars x.cells) with
    | false => simp only [hb] at hv; cases hv
    | true => simp only [hb] at hv; cases hv; exact Later.put hf h0 (Nat.lt_succ_self _)
  · cases hv
theorem aop_later (CL : CallLater call) {op : AOp} {v : AV} (hv : aop call t h op = some (v, h')) (hf : Fresh h) : Later h h' := by
  have pure : op.pure = true → Later h h' := by
    intro hp
    obtain ⟨r, hr⟩ := aop_pure (t := t) (call := call) hp
    rw [hr] at hv
    cases r with
    | none => cases hv
    | some r => cases hv; exact Later.refl hf
  have look : op.peeks = true → Later h h' := by
    intro hp
    have := (aop_look (call := call) (t := t) (h := h) (h' := h) hp fun _ _ => rfl).2 v h' hv
    rw [this]
    exact Later.refl hf
  cases op with
  | alloc cells => cases hv; exact Later.push hf _
  | box x =>
    simp only [aop] at hv
    cases hb : scalars (ev t x).cells with
    | false => rw [hb] at hv; cases hv
    | true => rw [hb] at hv; cases hv; exact Later.push hf _
  | bsl z len sz own ps =>
    cases own with
    | false => exact pure rfl
    | true =>
      simp only [aop, Option.bind_eq_some_iff] at hv
      obtain ⟨els, _, hv⟩ := hv
      cases hv
      exact Later.push hf _
  | load => exact look rfl
  | lkup => exact look rfl
  | convs => exact look rfl
  | store n p x =>
    simp only [aop, Option.bind_eq_some_iff, Option.some.injEq, Prod.mk.injEq] at hv
    obtain ⟨h1, hs, _, rfl⟩ := hv
    exact storeAt_later hs hf
  | mksl z sz bytes l c =>
    simp only [aop, Option.bind_eq_some_iff] at hv
    obtain ⟨m, _, k, _, hv⟩ := hv
    cases hb : (Nat.beq m k && Nat.ble (m * bytes) room && Nat.beq z.cells.length sz && scalars z.cells) with
    | false => rw [hb] at hv; cases hv
    | true => rw [hb] at hv; cases hv; exact Later.push hf _
  | mkmap => cases hv; exact Later.push hf _
  | mupd agg m k x =>
    simp only [aop] at hv
    split at hv
    · split at hv
      · rename_i es ver st hg
        simp only [Option.bind_eq_some_iff, Option.some.injEq, Prod.mk.injEq] at hv
        obtain ⟨es', _, _, rfl⟩ := hv
        exact Later.put hf hg (Nat.lt_succ_self _)
      · cases hv
    · cases hv
  | call f xs => exact CL _ _ _ _ _ hv hf
  | callv x xs =>
    simp only [aop] at hv
    split at hv
    · exact CL _ _ _ _ _ hv hf
    · cases hv
  | app sz bytes ro x y =>
    simp only [aop, Option.bind_eq_some_iff] at hv
    obtain ⟨ys, _, hv⟩ := hv
    exact appendTo_later hv hf
  | appz z sz bytes x n =>
    simp only [aop, Option.bind_eq_some_iff] at hv
    obtain ⟨k, _, hv⟩ := hv
    cases hb : (Nat.ble (k * bytes) room && Nat.beq z.cells.length sz && scalars z.cells && Nat.blt 0 k && Nat.blt 0 sz) with
    | false => rw [hb] at hv; cases hv
    | true =>
      rw [hb] at hv
      simp only [cond_true] at hv
      split at hv
      · cases hv; exact Later.push hf _
      · cases hv
  | copy sz x y =>
    simp only [aop, Option.bind_eq_some_iff] at hv
    obtain ⟨ys, _, hv⟩ := hv
    split at hv
    · rename_i id ver _ off len _
      split at hv
      · rename_i sz' els st hg
        have h0 := arrAt_get hg
        cases hb : (Nat.beq sz sz' && Nat.ble (off + len) els.length && sized sz ys) with
        | false => simp only [hb] at hv; cases hv
        | true => simp only [hb] at hv; cases hv; exact Later.put hf h0 (Nat.lt_succ_self _)
      · cases hv
    · cases hv
  | clear z sz x =>
    simp only [aop] at hv
    split at hv
    · rename_i id ver _ off len _
      split at hv
      · rename_i sz' els st hg
        have h0 := arrAt_get hg
        cases hb : (Nat.beq sz sz' && Nat.ble (off + len) els.length && Nat.beq z.cells.length sz && scalars z.cells) with
        | false => simp only [hb] at hv; cases hv
        | true => simp only [hb] at hv; cases hv; exact Later.put hf h0 (Nat.lt_succ_self _)
      · cases hv
    · cases hv; exact Later.refl hf
    · cases hv
  | _ => exact pure rfl
theorem astep_later (CL : CallLater call) {o : AOper} (hz : o.fz = 0) {p : Tmps × Heap} (hv : astep call o t h = some p) (hf : Fresh h) : Later h p.2 := by
  unfold astep at hv
  cases hw : wanted t o.guard with
  | true =>
    rw [hw] at hv
    simp only [cond_true, Option.bind_eq_some_iff] at hv
    obtain ⟨q, hq, hv⟩ := hv
    rw [hz] at hv
    cases hv
    exact aop_later CL (v := q.1) (h' := q.2) (by rw [hq]) hf
  | false =>
    rw [hw] at hv
    cases hv
    exact Later.refl hf
end
end Go.AM
