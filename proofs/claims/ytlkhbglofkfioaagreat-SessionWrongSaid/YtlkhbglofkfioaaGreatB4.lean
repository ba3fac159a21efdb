/- Calls; every operation. -/
import Derived.Test.YtlkhbglofkfioaaGreatB3
set_option linter.unusedVariables false
set_option linter.unusedSimpArgs false
namespace Go.AM
open Go
/-- What a call of a function comes to. -/
def GoesTo (P : Program) (f : FuncId) (us : Array Value) (w : World) (K : Value → World → Prop) : Prop :=
  match (callFunc f us).run P w with
  | .ok (.value u) w' => K u w'
  | .ok (.enter g xs) w' => Calls P g xs w' fun | .returned u, w'' => K u w'' | _, _ => False
  | _ => False
/-- Calls go as told. -/
def CallGood (P : Program) (call : CallF) : Prop :=
  ∀ (f : Nat) (args : List AV) (h : Heap) (v : AV) (h' : Heap), call f args h = some (v, h') → ∀ (C : Ctx) (us : Array Value), Sim C h → VRs C args us →
    ∀ (K : Value → World → Prop), (∀ C' u, Trans C C' → Sim C' h' → VR C' v u → K u C'.w) → GoesTo P f us C.w K
section
variable {P : Program} {T : Types} {o : Oper} {a : Act} {C : Ctx} {h : Heap} {t : Tmps} {n : Nat} {call : CallF} {an : Ann}
theorem goes_op {f : FuncId} {us : Array Value} {K : Act → World → Prop} {Q : Exit → Act → World → Prop} {w : World} (hr : execOp a.eval o = callFunc f us) (h : GoesTo P f us w fun u w' => K (a.put o.dst u) w') : o.wp P a w K Q := by
  unfold GoesTo at h
  unfold Oper.wp
  rw [hr]
  split at h
  · rename_i u w' he
    rw [he]; exact h
  · rename_i g xs w' he
    rw [he]
    refine Calls.mono h fun e w'' hk => ?_
    cases e with
    | returned u => exact hk
    | panicked c => exact hk.elim
    | outgrown => exact hk.elim
  · exact h.elim
theorem evs_vrs (hT : TR C t a n) {l : Array Operand} {l' : List AOpd} (hl : trOpds l.toList = some l') : VRs C (evs t l') (l.map a.eval) := by
  obtain ⟨h1, h2⟩ := evs_ok hT hl
  refine ⟨by simp [evs, h1], fun i x v hx hv => h2 i x v hx ?_⟩
  rw [← hv]; simp
theorem op_call (CG : CallGood P call) {f : FuncId} {args : Array Operand} {ts : Array TypeId} {xs : List AOpd} (hop : o.op = .call { callee := .value (.func f), args := args, argTypes := ts }) (hxs : trOpds args.toList = some xs) (S : Sim C h) (hT : TR C t a n) {v : AV} {h' : Heap} (hv : call f (evs t xs) h = some (v, h')) : OpGood P o a C h' v := by
  intro K Q hK
  refine goes_op (f := f) (us := args.map a.eval) ?_ (CG f _ h v h' hv C _ S (evs_vrs hT hxs) _ fun C' u Tr S' hvr => hK C' u Tr S' hvr)
  simp [execOp, hop, resolve, invoke, Deferred.ofValue, Act.eval]
theorem op_callv (CG : CallGood P call) {x : Operand} {x' : AOpd} {args : Array Operand} {ts : Array TypeId} {xs : List AOpd} (hop : o.op = .call { callee := .value x, args := args, argTypes := ts }) (hx : trOpd x = some x') (hxs : trOpds args.toList = some xs) (S : Sim C h) (hT : TR C t a n)
    {f : Nat} {cap : List AV} (he : ev t x' = .fn f cap) {v : AV} {h' : Heap} (hv : call f (evs t xs ++ cap) h = some (v, h')) : OpGood P o a C h' v := by
  have hxv := ev_ok hT hx
  rw [he] at hxv
  obtain ⟨vs, hu, hsz, hr⟩ := VR.fn_inv hxv
  have hargs := evs_vrs hT hxs
  have hall : VRs C (evs t xs ++ cap) (args.map a.eval ++ vs) := by
    refine ⟨by rw [Array.size_append, hargs.1, hsz, List.length_append], fun i x v hx hv => ?_⟩
    by_cases hi : i < (evs t xs).length
    · rw [List.getElem?_append_left hi] at hx
      rw [Array.getElem?_append_left (by rw [hargs.1]; exact hi)] at hv
      exact hargs.2 i x v hx hv
    · rw [List.getElem?_append_right (by omega)] at hx
      rw [Array.getElem?_append_right (by rw [hargs.1]; omega), hargs.1] at hv
      exact hr _ x v hx hv
  intro K Q hK
  refine goes_op (f := f) (us := args.map a.eval ++ vs) ?_ (CG f _ h v h' hv C _ S hall _ fun C' u Tr S' hvr => hK C' u Tr S' hvr)
  simp [execOp, hop, resolve, invoke, Deferred.ofValue, hu]
theorem keyTy_int (F : Facts P T) {kt : TypeId} {tk : TI} {k : IntKind} (ht : T kt = some tk) (hk : tk.kind = .int k) : KeyTy P false kt := by
  obtain ⟨d, hd, hdb⟩ := F.und ht
  rw [hk] at hdb
  exact ⟨k, by rw [hd, (desc_int hdb).1]⟩
theorem keyTy_struct (F : Facts P T) {kt : TypeId} {tk : TI} {fs : List (Nat × TypeId)} (ht : T kt = some tk) (hk : tk.kind = .struct fs) (he : tk.eqOk = true) : KeyTy P true kt := by
  obtain ⟨d, hd, hdb⟩ := F.und ht
  rw [hk] at hdb
  obtain ⟨gs, hg, _⟩ := desc_struct hdb
  exact ⟨⟨gs, by rw [hd, hg]⟩, F.eq kt tk ht he⟩
theorem bind2 {α β : Type} {x : Option α} {f : α → Option β} {y : β} (h : x.bind f = some y) : ∃ v, x = some v ∧ f v = some y := Option.bind_eq_some_iff.1 h
theorem aop_builtin (F : Facts P T) {b : Builtin} {args : Array Operand} {ts : Array TypeId} (hop : o.op = .call { callee := .builtin b, args := args, argTypes := ts }) {o' : AOp} (htr : trBuiltin T an o.dst b args.toList ts.toList = some o') (S : Sim C h) (hT : TR C t a n) {v : AV} {h' : Heap} (hv : aop call t h o' = some (v, h')) : OpGood P o a C h' v := by
  unfold trBuiltin at htr
  split at htr
  · -- append
    rename_i x y ty tu ha hts
    have ha' : args = #[x, y] := by rw [← Array.toArray_toList (xs := args), ha]
    have hts' : ts = #[ty, tu] := by rw [← Array.toArray_toList (xs := ts), hts]
    subst ha'; subst hts'
    obtain ⟨ti, ht, htr⟩ := bind2 htr
    split at htr
    · rename_i e hk
      obtain ⟨te, hte, htr⟩ := bind2 htr
      obtain ⟨x', hx, htr⟩ := bind2 htr
      obtain ⟨y', hy, htr⟩ := bind2 htr
      obtain ⟨tj, htu, htr⟩ := bind2 htr
      split at htr
      · rename_i e' hkj
        split at htr
        · cases htr
          simp only [aop, Option.bind_eq_some_iff] at hv
          obtain ⟨ys, hys, hv⟩ := hv
          exact op_app F hop ht hk hte htu hkj hx hy S hT hys hv
        · cases htr
      · rename_i hkj
        cases htr
        simp only [aop, Option.bind_eq_some_iff] at hv
        obtain ⟨k, hkn, hv⟩ := hv
        cases hb : (Nat.ble (k * te.bytes) room && Nat.beq te.zero.cells.length te.size && scalars te.zero.cells && Nat.blt 0 k && Nat.blt 0 te.size) with
        | false => rw [hb] at hv; cases hv
        | true =>
          rw [hb] at hv
          simp only [cond_true] at hv
          simp only [Bool.and_eq_true] at hb
          split at hv
          · rename_i he
            cases hv
            exact op_appz F hop ht hk hte htu hkj hx hy S hT hkn (Nat.le_of_ble_eq_true hb.1.1.1.1) (Nat.le_of_ble_eq_true hb.1.2) (Nat.le_of_ble_eq_true hb.2) he
          · cases hv
      · cases htr
    · cases htr
  · -- copy
    rename_i x y ty tu ha hts
    have ha' : args = #[x, y] := by rw [← Array.toArray_toList (xs := args), ha]
    have hts' : ts = #[ty, tu] := by rw [← Array.toArray_toList (xs := ts), hts]
    subst ha'; subst hts'
    obtain ⟨ti, ht, htr⟩ := bind2 htr
    split at htr
    · rename_i e hk
      obtain ⟨te, hte, htr⟩ := bind2 htr
      obtain ⟨x', hx, htr⟩ := bind2 htr
      obtain ⟨y', hy, htr⟩ := bind2 htr
      cases htr
      simp only [aop, Option.bind_eq_some_iff] at hv
      obtain ⟨ys, hys, hv⟩ := hv
      split at hv
      · rename_i id ver sz0 off len he
        split at hv
        · rename_i sz els st hg
          cases hb : (Nat.beq te.size sz && Nat.ble (off + len) els.length && sized te.size ys) with
          | false => simp only [hb] at hv; cases hv
          | true =>
            simp only [hb, cond_true, Option.some.injEq, Prod.mk.injEq] at hv
            simp only [Bool.and_eq_true] at hb
            obtain ⟨rfl, rfl⟩ := hv
            have := op_copy F hop ht hk hte hx hy S hT hys he hg (Nat.eq_of_beq_eq_true hb.1.1) (Nat.le_of_ble_eq_true hb.1.2) hb.2
            simpa using this
        · cases hv
      · cases hv
    · cases htr
  · -- len
    rename_i x ty ha hts
    have ha' : args = #[x] := by rw [← Array.toArray_toList (xs := args), ha]
    have hts' : ts = #[ty] := by rw [← Array.toArray_toList (xs := ts), hts]
    subst ha'; subst hts'
    obtain ⟨ti, ht, htr⟩ := bind2 htr
    split at htr
    · rename_i e hk
      obtain ⟨x', hx, htr⟩ := Option.bind_eq_some_iff.1 htr
      cases htr
      simp only [aop, Option.bind_eq_some_iff, Option.some.injEq, Prod.mk.injEq] at hv
      obtain ⟨m, hm, rfl, rfl⟩ := hv
      exact op_len F hop ht (.inl ⟨rfl, e, hk⟩) hx S hT hm
    · rename_i hk
      obtain ⟨x', hx, htr⟩ := bind2 htr
      cases htr
      simp only [aop, Option.bind_eq_some_iff, Option.some.injEq, Prod.mk.injEq] at hv
      obtain ⟨m, hm, rfl, rfl⟩ := hv
      exact op_len F hop ht (.inr ⟨rfl, hk⟩) hx S hT hm
    · cases htr
  · -- cap
    rename_i x ty ha hts
    have ha' : args = #[x] := by rw [← Array.toArray_toList (xs := args), ha]
    have hts' : ts = #[ty] := by rw [← Array.toArray_toList (xs := ts), hts]
    subst ha'; subst hts'
    obtain ⟨ti, ht, htr⟩ := bind2 htr
    split at htr
    · rename_i e hk
      obtain ⟨x', hx, htr⟩ := bind2 htr
      cases htr
      simp only [aop] at hv
      split at hv
      · rename_i els he; cases hv; exact op_cap F hop ht hk hx S hT he (.inl rfl)
      · rename_i els he; cases hv; exact op_cap F hop ht hk hx S hT he (.inr rfl)
      · cases hv
    · cases htr
  · -- min
    rename_i x y ha
    have ha' : args = #[x, y] := by rw [← Array.toArray_toList (xs := args), ha]
    subst ha'
    obtain ⟨x', hx, htr⟩ := bind2 htr
    obtain ⟨y', hy, htr⟩ := bind2 htr
    cases htr
    simp only [aop] at hv
    split at hv
    · rename_i k i j m hi hj
      split at hv
      · rename_i hkk
        subst hkk
        cases hv
        exact op_minmax (mx := false) hop hx hy S hT hi hj
      · cases hv
    · cases hv
  · -- max
    rename_i x y ha
    have ha' : args = #[x, y] := by rw [← Array.toArray_toList (xs := args), ha]
    subst ha'
    obtain ⟨x', hx, htr⟩ := bind2 htr
    obtain ⟨y', hy, htr⟩ := bind2 htr
    cases htr
    simp only [aop] at hv
    split at hv
    · rename_i k i j m hi hj
      split at hv
      · rename_i hkk
        subst hkk
        cases hv
        exact op_minmax (mx := true) hop hx hy S hT hi hj
      · cases hv
    · cases hv
  · -- clear
    rename_i x ty ha hts
    have ha' : args = #[x] := by rw [← Array.toArray_toList (xs := args), ha]
    have hts' : ts = #[ty] := by rw [← Array.toArray_toList (xs := ts), hts]
    subst ha'; subst hts'
    obtain ⟨ti, ht, htr⟩ := bind2 htr
    split at htr
    · rename_i e hk
      obtain ⟨te, hte, htr⟩ := bind2 htr
      obtain ⟨x', hx, htr⟩ := bind2 htr
      cases htr
      simp only [aop] at hv
      split at hv
      · rename_i id ver sz0 off len he
        split at hv
        · rename_i sz els st hg
          cases hb : (Nat.beq te.size sz && Nat.ble (off + len) els.length && Nat.beq te.zero.cells.length te.size && scalars te.zero.cells) with
          | false => simp only [hb] at hv; cases hv
          | true =>
            simp only [hb, cond_true, Option.some.injEq, Prod.mk.injEq] at hv
            simp only [Bool.and_eq_true] at hb
            obtain ⟨rfl, rfl⟩ := hv
            exact op_clear F hop ht hk hte hx S hT he hg (Nat.eq_of_beq_eq_true hb.1.1.1) (Nat.le_of_ble_eq_true hb.1.1.2)
        · cases hv
      · rename_i tag he
        cases hv
        exact op_clear_nothing F hop ht hk hx S hT he
      · cases hv
    · cases htr
  · cases htr
theorem aop_ok (F : Facts P T) (CG : CallGood P call) {o' : AOp} (htr : trOp T an o.dst o.op = some o') (S : Sim C h) (hT : TR C t a n) {v : AV} {h' : Heap} (hv : aop call t h o' = some (v, h')) : OpGood P o a C h' v := by
  cases hop : o.op with
  | move x =>
    rw [hop] at htr
    obtain ⟨x', hx, rfl⟩ := Option.map_eq_some_iff.1 htr
    cases hv
    exact op_mov (.inl hop) hx S hT
  | assign x =>
    rw [hop] at htr
    obtain ⟨x', hx, rfl⟩ := Option.map_eq_some_iff.1 htr
    cases hv
    exact op_mov (.inr hop) hx S hT
  | pick c x y =>
    rw [hop] at htr
    obtain ⟨c', hc, htr⟩ := bind2 htr
    obtain ⟨x', hx, htr⟩ := bind2 htr
    obtain ⟨y', hy, htr⟩ := bind2 htr
    cases htr
    simp only [aop] at hv
    split at hv
    · rename_i r hr
      cases hv
      exact op_pick hop hc hx hy S hT hr
    · cases hv
  | alloc e =>
    rw [hop] at htr
    obtain ⟨te, hte, htr⟩ := bind2 htr
    cases htr
    cases hv
    exact op_alloc F hop hte S
  | box e x =>
    rw [hop] at htr
    obtain ⟨x', hx, rfl⟩ := Option.map_eq_some_iff.1 htr
    simp only [aop] at hv
    cases hb : scalars (ev t x').cells with
    | false => rw [hb] at hv; cases hv
    | true => rw [hb] at hv; cases hv; exact op_box hop hx S hT hb
  | build ty parts =>
    rw [hop] at htr
    obtain ⟨ti, ht, htr⟩ := bind2 htr
    split at htr
    · rename_i fs hk
      split at htr
      · rename_i hall
        obtain ⟨ps, hps, htr⟩ := bind2 htr
        cases htr
        simp only [aop, Option.bind_eq_some_iff, Option.some.injEq, Prod.mk.injEq] at hv
        obtain ⟨cs, hf, rfl, rfl⟩ := hv
        exact op_build_struct F hop ht hk hall hps S hT hf
      · cases htr
    · rename_i len e hk
      obtain ⟨te, hte, htr⟩ := bind2 htr
      obtain ⟨ps, hps, htr⟩ := bind2 htr
      cases htr
      simp only [aop, Option.bind_eq_some_iff, Option.some.injEq, Prod.mk.injEq] at hv
      obtain ⟨cs, hf, rfl, rfl⟩ := hv
      exact op_build_arr F hop ht hk hte hps S hT hf
    · cases htr
  | buildSlice ty len parts =>
    rw [hop] at htr
    obtain ⟨ti, ht, htr⟩ := bind2 htr
    split at htr
    · rename_i e hk
      obtain ⟨te, hte, htr⟩ := bind2 htr
      obtain ⟨ps, hps, htr⟩ := bind2 htr
      split at htr
      · rename_i hlen
        cases htr
        simp only [aop, Option.bind_eq_some_iff] at hv
        obtain ⟨els, hf, hv⟩ := hv
        obtain ⟨h1, h2⟩ := op_bsl F hop ht hk hte hlen hps S hT hf
        cases hown : Ann.isIn an.own o.dst with
        | true => rw [hown] at hv; cases hv; exact h2
        | false => rw [hown] at hv; cases hv; exact h1 _ _ rfl rfl
      · cases htr
    · cases htr
  | load ty x =>
    rw [hop] at htr
    obtain ⟨ti, ht, htr⟩ := bind2 htr
    obtain ⟨x', hx, htr⟩ := bind2 htr
    cases htr
    simp only [aop, Option.bind_eq_some_iff, Option.some.injEq, Prod.mk.injEq] at hv
    obtain ⟨w, hw, rfl, rfl⟩ := hv
    exact op_load F hop ht hx S hT hw
  | store ty p x =>
    rw [hop] at htr
    obtain ⟨ti, ht, htr⟩ := bind2 htr
    obtain ⟨p', hp, htr⟩ := bind2 htr
    obtain ⟨x', hx, htr⟩ := bind2 htr
    cases htr
    simp only [aop, Option.bind_eq_some_iff, Option.some.injEq, Prod.mk.injEq] at hv
    obtain ⟨w, hw, rfl, rfl⟩ := hv
    exact op_store F hop ht hp hx S hT hw
  | nilCheck x =>
    rw [hop] at htr
    obtain ⟨x', hx, rfl⟩ := Option.map_eq_some_iff.1 htr
    simp only [aop] at hv
    split at hv
    · rename_i id off he; cases hv; exact op_nilc hop hx S hT he (.inl ⟨_, _, rfl⟩)
    · rename_i id ver i off he; cases hv; exact op_nilc hop hx S hT he (.inr (.inl ⟨_, _, _, _, rfl⟩))
    · rename_i e off he; cases hv; exact op_nilc hop hx S hT he (.inr (.inr ⟨_, _, rfl⟩))
    · cases hv
  | binOp op ty x y ty' =>
    rw [hop] at htr
    obtain ⟨x', hx, htr⟩ := bind2 htr
    obtain ⟨y', hy, htr⟩ := bind2 htr
    obtain ⟨ti, ht, htr⟩ := bind2 htr
    have plain : ∀ {o'' : AOp}, o'' = .bin op x' y' → o'' = o' → OpGood P o a C h' v := by
      intro o'' e1 e2
      subst e1; subst e2
      simp only [aop, Option.bind_eq_some_iff, Option.some.injEq, Prod.mk.injEq] at hv
      obtain ⟨w, hw, rfl, rfl⟩ := hv
      exact op_bin hop hx hy S hT hw
    split at htr
    · cases htr; exact plain rfl rfl
    · cases htr; exact plain rfl rfl
    · obtain ⟨k, hk, htr⟩ := bind2 htr
      have hty : ty' = ty' := rfl
      split at htr
      · cases htr
        simp only [aop, Option.bind_eq_some_iff, Option.some.injEq, Prod.mk.injEq] at hv
        obtain ⟨r, hr, rfl, rfl⟩ := hv
        exact op_eq (neg := false) F hop ht hk hx hy S hT hr
      · cases htr
        simp only [aop, Option.bind_eq_some_iff, Option.some.injEq, Prod.mk.injEq] at hv
        obtain ⟨r, hr, rfl, rfl⟩ := hv
        exact op_eq (neg := true) F hop ht hk hx hy S hT hr
      · cases htr
  | unOp op ty x =>
    rw [hop] at htr
    obtain ⟨x', hx, htr⟩ := bind2 htr
    cases htr
    simp only [aop, Option.bind_eq_some_iff, Option.some.injEq, Prod.mk.injEq] at hv
    obtain ⟨w, hw, rfl, rfl⟩ := hv
    exact op_un hop hx S hT hw
  | convert s d x =>
    rw [hop] at htr
    obtain ⟨ts, hs, htr⟩ := bind2 htr
    obtain ⟨td, hd, htr⟩ := bind2 htr
    obtain ⟨x', hx, htr⟩ := bind2 htr
    split at htr
    · rename_i ks k hks hkd
      cases htr
      simp only [aop] at hv
      split at hv
      · rename_i j i he; cases hv; exact op_conv F hop hs hd hks hkd hx S hT he
      · cases hv
    · rename_i e hks hkd
      obtain ⟨te, hte, htr⟩ := bind2 htr
      split at htr
      · rename_i hke
        cases htr
        simp only [aop, Option.bind_eq_some_iff, Option.some.injEq, Prod.mk.injEq] at hv
        obtain ⟨els, he, l, hl, rfl, rfl⟩ := hv
        exact op_convs F hop hs hd hks hkd hte hke hx S hT he hl
      · cases htr
    · cases htr
  | fieldAddr ty x f =>
    rw [hop] at htr
    obtain ⟨ti, ht, htr⟩ := bind2 htr
    split at htr
    · rename_i fs hk
      obtain ⟨p, hp, htr⟩ := bind2 htr
      split at htr
      · cases htr
      · rename_i hp0
        obtain ⟨x', hx, htr⟩ := bind2 htr
        cases htr
        simp only [aop] at hv
        split at hv
        · rename_i id q he; cases hv; exact op_fadr F hop ht hk hp hp0 hx S hT he (.inl ⟨_, _, rfl, rfl⟩)
        · rename_i id ver i q he; cases hv; exact op_fadr F hop ht hk hp hp0 hx S hT he (.inr (.inl ⟨_, _, _, _, rfl, rfl⟩))
        · rename_i e q he; cases hv; exact op_fadr F hop ht hk hp hp0 hx S hT he (.inr (.inr ⟨_, _, rfl, rfl⟩))
        · cases hv
    · cases htr
  | field ty x f =>
    rw [hop] at htr
    obtain ⟨ti, ht, htr⟩ := bind2 htr
    split at htr
    · rename_i fs hk
      obtain ⟨p, hp, htr⟩ := bind2 htr
      obtain ⟨tf, htf, htr⟩ := bind2 htr
      obtain ⟨x', hx, htr⟩ := bind2 htr
      cases htr
      simp only [aop] at hv
      split at hv
      · rename_i cs he
        simp only [Option.bind_eq_some_iff, Option.some.injEq, Prod.mk.injEq] at hv
        obtain ⟨w, hw, rfl, rfl⟩ := hv
        exact op_fld F hop ht hk hp htf hx S hT he hw
      · cases hv
    · cases htr
  | indexAddr ty x i =>
    rw [hop] at htr
    obtain ⟨ti, ht, htr⟩ := bind2 htr
    split at htr
    · rename_i e hk
      obtain ⟨te, hte, htr⟩ := bind2 htr
      obtain ⟨x', hx, htr⟩ := bind2 htr
      obtain ⟨i', hi, htr⟩ := bind2 htr
      cases htr
      simp only [aop, Option.bind_eq_some_iff] at hv
      obtain ⟨m, hm, hv⟩ := hv
      split at hv
      · rename_i els tag he
        simp only [Option.bind_eq_some_iff] at hv
        obtain ⟨el, hel, hv⟩ := hv
        cases hb : headSz te.size els with
        | false => rw [hb] at hv; cases hv
        | true => rw [hb] at hv; cases hv; exact op_iadr F hop ht hk hte hx hi S hT hm (.inl ⟨_, _, _, he, hel, hb, rfl⟩)
      · rename_i id ver sz' off len he
        cases hb : (Nat.blt m len && Nat.beq te.size sz') with
        | false => rw [hb] at hv; cases hv
        | true =>
          rw [hb] at hv
          cases hv
          simp only [Bool.and_eq_true] at hb
          have hz := Nat.eq_of_beq_eq_true hb.2
          subst hz
          exact op_iadr F hop ht hk hte hx hi S hT hm (.inr ⟨_, _, _, _, he, Nat.le_of_ble_eq_true hb.1, rfl⟩)
      · cases hv
    · rename_i len e hk
      obtain ⟨te, hte, htr⟩ := bind2 htr
      obtain ⟨x', hx, htr⟩ := bind2 htr
      obtain ⟨i', hi, htr⟩ := bind2 htr
      cases htr
      simp only [aop, Option.bind_eq_some_iff] at hv
      obtain ⟨m, hm, hv⟩ := hv
      cases hb : Nat.blt m len with
      | false => rw [hb] at hv; cases hv
      | true =>
        rw [hb] at hv
        simp only [cond_true] at hv
        split at hv
        · rename_i id off he
          cases hv
          exact op_iadra F hop ht hk hte hx hi S hT hm (Nat.le_of_ble_eq_true hb) he
        · cases hv
    · cases htr
  | index ty x i =>
    rw [hop] at htr
    obtain ⟨ti, ht, htr⟩ := bind2 htr
    split at htr
    · rename_i hk
      obtain ⟨x', hx, htr⟩ := bind2 htr
      obtain ⟨i', hi, htr⟩ := bind2 htr
      cases htr
      simp only [aop, Option.bind_eq_some_iff] at hv
      obtain ⟨m, hm, hv⟩ := hv
      split at hv
      · rename_i l he
        simp only [Option.bind_eq_some_iff, Option.some.injEq, Prod.mk.injEq] at hv
        obtain ⟨c, hc, rfl, rfl⟩ := hv
        exact op_sidx F hop ht hk hx hi S hT hm he hc
      · cases hv
    · cases htr
  | slice ty x lo hi mx =>
    rw [hop] at htr
    obtain ⟨ti, ht, htr⟩ := bind2 htr
    obtain ⟨x', hx, htr⟩ := bind2 htr
    obtain ⟨lo', hlo, htr⟩ := bind2 htr
    obtain ⟨hi', hhi, htr⟩ := bind2 htr
    obtain ⟨mx', hmx, htr⟩ := bind2 htr
    split at htr
    · rename_i e hk
      obtain ⟨te, hte, htr⟩ := bind2 htr
      split at htr
      · cases htr
      · rename_i hmh
        cases htr
        simp only [aop, Option.bind_eq_some_iff, Option.some.injEq, Prod.mk.injEq] at hv
        obtain ⟨w, hw, rfl, rfl⟩ := hv
        refine op_slc F hop ht hk hte hx hlo hhi hmx (fun h1 => ?_) S hT hw
        cases hi with
        | none => exact absurd (by simp [h1]) hmh
        | some _ => rfl
    · rename_i hk
      cases htr
      simp only [aop, Option.bind_eq_some_iff, Option.some.injEq, Prod.mk.injEq] at hv
      obtain ⟨w, hw, rfl, rfl⟩ := hv
      exact op_slcs F hop ht hk hx hlo hhi hmx S hT hw
    · cases htr
  | extract x i =>
    rw [hop] at htr
    obtain ⟨x', hx, htr⟩ := bind2 htr
    cases htr
    simp only [aop] at hv
    split at hv
    · rename_i vs he
      simp only [Option.bind_eq_some_iff, Option.some.injEq, Prod.mk.injEq] at hv
      obtain ⟨w, hw, rfl, rfl⟩ := hv
      exact op_ext hop hx S hT he hw
    · cases hv
  | makeSlice ty l c =>
    rw [hop] at htr
    obtain ⟨ti, ht, htr⟩ := bind2 htr
    split at htr
    · rename_i e hk
      obtain ⟨te, hte, htr⟩ := bind2 htr
      obtain ⟨l', hl, htr⟩ := bind2 htr
      obtain ⟨c', hc, htr⟩ := bind2 htr
      cases htr
      simp only [aop, Option.bind_eq_some_iff] at hv
      obtain ⟨m, hm, k, hk2, hv⟩ := hv
      cases hb : (Nat.beq m k && Nat.ble (m * te.bytes) room && Nat.beq te.zero.cells.length te.size && scalars te.zero.cells) with
      | false => rw [hb] at hv; cases hv
      | true =>
        rw [hb] at hv
        cases hv
        simp only [Bool.and_eq_true] at hb
        have hmk := Nat.eq_of_beq_eq_true hb.1.1.1
        subst hmk
        exact op_mksl F hop ht hk hte hl hc S hT hm hk2 (Nat.le_of_ble_eq_true hb.1.1.2)
    · cases htr
  | makeMap ty r =>
    rw [hop] at htr
    cases r with
    | none => cases htr; cases hv; exact op_mkmap hop S
    | some _ => cases htr
  | lookup ty m k ok =>
    rw [hop] at htr
    obtain ⟨ti, ht, htr⟩ := bind2 htr
    split at htr
    · rename_i kt e hk
      obtain ⟨tk, htk, htr⟩ := bind2 htr
      obtain ⟨te, hte, htr⟩ := bind2 htr
      obtain ⟨m', hm, htr⟩ := bind2 htr
      obtain ⟨k', hkk, htr⟩ := bind2 htr
      have fin : ∀ {agg : Bool}, KeyTy P agg kt → aop call t h (.lkup agg te.zero ok m' k') = some (v, h') → OpGood P o a C h' v := by
        intro agg hkt hv
        simp only [aop] at hv
        split at hv
        · rename_i id he
          split at hv
          · rename_i es v0 st hg
            simp only [Option.bind_eq_some_iff] at hv
            obtain ⟨r, hl, hv⟩ := hv
            have := op_lkup (ok := ok) F hop ht hk hkt hte hm hkk S hT he hg hl
            cases r with
            | none => cases hv; exact this
            | some w => cases hv; exact this
          · cases hv
        · cases hv
      split at htr
      · rename_i ik hki; cases htr; exact fin (keyTy_int F htk hki) hv
      · rename_i fs hki
        split at htr
        · rename_i heq; cases htr; exact fin (keyTy_struct F htk hki heq) hv
        · cases htr
      · cases htr
    · cases htr
  | mapUpdate ty m k x =>
    rw [hop] at htr
    obtain ⟨ti, ht, htr⟩ := bind2 htr
    split at htr
    · rename_i kt e hk
      obtain ⟨tk, htk, htr⟩ := bind2 htr
      obtain ⟨m', hm, htr⟩ := bind2 htr
      obtain ⟨k', hkk, htr⟩ := bind2 htr
      obtain ⟨x', hx, htr⟩ := bind2 htr
      have fin : ∀ {agg : Bool}, KeyTy P agg kt → aop call t h (.mupd agg m' k' x') = some (v, h') → OpGood P o a C h' v := by
        intro agg hkt hv
        simp only [aop] at hv
        split at hv
        · rename_i id he
          split at hv
          · rename_i es v0 st hg
            simp only [Option.bind_eq_some_iff, Option.some.injEq, Prod.mk.injEq] at hv
            obtain ⟨es', hl, rfl, rfl⟩ := hv
            exact op_mupd F hop ht hk hkt hm hkk hx S hT he hg hl
          · cases hv
        · cases hv
      split at htr
      · rename_i ik hki; cases htr; exact fin (keyTy_int F htk hki) hv
      · rename_i fs hki
        split at htr
        · rename_i heq; cases htr; exact fin (keyTy_struct F htk hki heq) hv
        · cases htr
      · cases htr
    · cases htr
  | makeFunc fn first cap =>
    rw [hop] at htr
    cases fn with
    | func f =>
      simp only [trOp] at htr
      split at htr
      · rename_i hf
        obtain ⟨cs, hcs, htr⟩ := bind2 htr
        cases htr
        cases hv
        exact op_mkfn hop hf hcs S hT
      · cases htr
    | _ => cases htr
  | call c =>
    rw [hop] at htr
    obtain ⟨callee, args, ts⟩ := c
    cases callee with
    | builtin b => exact aop_builtin F hop htr S hT hv
    | invoke r m => cases htr
    | value f =>
      have other : ∀ {x' : AOpd} {xs : List AOpd}, trOpd f = some x' → trOpds args.toList = some xs → aop call t h (.callv x' xs) = some (v, h') → OpGood P o a C h' v := by
        intro x' xs hx hxs hv
        simp only [aop] at hv
        split at hv
        · rename_i g cap he
          exact op_callv CG hop hx hxs S hT he hv
        · cases hv
      cases f with
      | func g =>
        obtain ⟨xs, hxs, htr⟩ := bind2 htr
        cases htr
        exact op_call CG hop hxs S hT hv
      | tmp i =>
        obtain ⟨xs, hxs, htr⟩ := bind2 htr
        cases htr
        exact other rfl hxs hv
      | const i =>
        obtain ⟨x', hx, htr⟩ := bind2 htr
        obtain ⟨xs, hxs, htr⟩ := bind2 htr
        cases htr
        exact other hx hxs hv
      | global i => cases htr
  | makeInterface ty x => rw [hop] at htr; cases htr; cases hv
  | panic x => rw [hop] at htr; cases htr; cases hv
  | insert _ _ _ _ => rw [hop] at htr; cases htr
  | ready _ => rw [hop] at htr; cases htr
  | waits _ => rw [hop] at htr; cases htr
  | sliceToArrayPointer _ _ => rw [hop] at htr; cases htr
  | makeChan _ _ => rw [hop] at htr; cases htr
  | mapEntry _ _ _ => rw [hop] at htr; cases htr
  | entryStore _ _ _ _ => rw [hop] at htr; cases htr
  | range _ _ => rw [hop] at htr; cases htr
  | next _ _ => rw [hop] at htr; cases htr
  | entry _ => rw [hop] at htr; cases htr
  | typeAssert _ _ _ _ => rw [hop] at htr; cases htr
  | go _ => rw [hop] at htr; cases htr
  | defer _ => rw [hop] at htr; cases htr
  | send _ _ => rw [hop] at htr; cases htr
  | recv _ _ _ => rw [hop] at htr; cases htr
  | select _ _ => rw [hop] at htr; cases htr
end
end Go.AM
