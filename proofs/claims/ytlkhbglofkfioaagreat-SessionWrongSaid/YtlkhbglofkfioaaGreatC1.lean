/- Calls: what the abstract machine's run gives is what the model's run gives. -/
import Derived.Test.YtlkhbglofkfioaaGreatC0
set_option linter.unusedVariables false
set_option linter.unusedSimpArgs false
namespace Go.AM
open Go
/-! ### memory grows -/
section
variable {call : CallF}
theorem freeze_later : ∀ (d : Nat) (x : AV) (h : Heap), Fresh h → Later h (freeze d x h).2
  | 0, x, h, hf => Later.refl hf
  | d + 1, x, h, hf => by
    have many : ∀ (l : List AV) (h : Heap), Fresh h → Later h (fzMany d l h).2 := by
      intro l
      induction l with
      | nil => intro h hf; exact Later.refl hf
      | cons x l ih =>
        intro h hf
        have h1 := ih h hf
        have h2 := freeze_later d x (fzMany d l h).2 h1.fresh
        exact h1.trans h2
    cases x with
    | agg cs => exact many cs h hf
    | tup cs => exact many cs h hf
    | ob id ver sz0 off len =>
      have e : freeze (d + 1) (.ob id ver sz0 off len) h = (match arrAt h id ver with
        | some (_, els, false, st) => bif Nat.ble (off + len) els.length then (.sl (fzMany d ((els.drop off).take len) (h.put id ⟨.dead, ver + 1, st + 1⟩)).1 .non, (fzMany d ((els.drop off).take len) (h.put id ⟨.dead, ver + 1, st + 1⟩)).2) else (.ob id ver sz0 off len, h)
        | _ => (.ob id ver sz0 off len, h)) := rfl
      rw [e]
      split
      · rename_i sz els st hg
        cases Nat.ble (off + len) els.length with
        | false => exact Later.refl hf
        | true =>
          have h1 := Later.put hf (arrAt_get hg) (e := ⟨.dead, ver + 1, st + 1⟩) (Nat.lt_succ_self st)
          exact h1.trans (many _ _ h1.fresh)
      · exact Later.refl hf
    | _ => exact Later.refl hf
theorem astep_later' (CL : CallLater call) {o : AOper} {t : Tmps} {h : Heap} {p : Tmps × Heap} (hv : astep call o t h = some p) (hf : Fresh h) : Later h p.2 := by
  unfold astep at hv
  cases hw : wanted t o.guard with
  | true =>
    rw [hw] at hv
    simp only [cond_true, Option.bind_eq_some_iff] at hv
    obtain ⟨q, hq, hv⟩ := hv
    have h1 := aop_later CL (v := q.1) (h' := q.2) (by rw [hq]) hf
    cases hz : o.fz with
    | zero => rw [hz] at hv; cases hv; exact h1
    | succ d => rw [hz] at hv; cases hv; exact h1.trans (freeze_later _ _ _ h1.fresh)
  | false =>
    rw [hw] at hv
    cases hv
    exact Later.refl hf
theorem dstep_later (CL : CallLater call) {o : AOper} {t : Tmps} {h : Heap} {na : Nat} {p : Tmps × Heap × Nat} (hv : dstep call o t h na = some p) (hf : Fresh h) : Later h p.2.1 := by
  cases ha : o.isAlloc with
  | true =>
    obtain ⟨cells, hc⟩ := alloc_op ha
    unfold dstep at hv
    rw [hc] at hv
    cases hv
    exact Later.refl hf
  | false =>
    rw [dstep_other ha] at hv
    obtain ⟨r, hr, hv⟩ := Option.bind_eq_some_iff.1 hv
    cases hv
    exact astep_later' CL hr hf
theorem dops_later (CL : CallLater call) : ∀ (l : List AOper) (looks : List (Nat × Nat)) (t : Tmps) (h : Heap) (na : Nat) (hs : List Heap) (seen : List (Nat × Nat × Nat × Nat)) {p : Tmps × Heap}, dops call l looks t h na hs seen = some p → Fresh h → Later h p.2
  | [], looks, t, h, na, hs, seen, p, hv, hf => by
    simp only [dops] at hv
    cases hb : (seen.all fun q => steady hs.reverse q.1 q.2.1 q.2.2.1 q.2.2.2) with
    | false => rw [hb] at hv; cases hv
    | true => rw [hb] at hv; cases hv; exact Later.refl hf
  | o :: l, looks, t, h, na, hs, seen, p, hv, hf => by
    simp only [dops] at hv
    obtain ⟨r, hr, hv⟩ := Option.bind_eq_some_iff.1 hv
    have h1 := dstep_later CL hr hf
    have go : ∀ lk hs2 seen2, dops call l lk r.1 r.2.1 r.2.2 hs2 seen2 = some p → Later h p.2 := fun lk hs2 seen2 hv => h1.trans (dops_later CL l lk _ _ _ hs2 seen2 hv h1.fresh)
    cases hl : o.look with
    | false =>
      simp only [hl, cond_false] at hv
      exact go _ _ _ hv
    | true =>
      simp only [hl, cond_true] at hv
      cases looks with
      | nil => cases hv
      | cons q lk =>
        simp only at hv
        cases hw : wanted t o.guard with
        | false =>
          simp only [hw, cond_false] at hv
          exact go _ _ _ hv
        | true =>
          simp only [hw, cond_true] at hv
          obtain ⟨s, hs', hv⟩ := Option.bind_eq_some_iff.1 hv
          cases s with
          | none => exact go _ _ _ hv
          | some x => exact go _ _ _ hv
theorem allocs_later : ∀ (l : List AOper) (h : Heap), Fresh h → Later h (allocsOf l h)
  | [], h, hf => Later.refl hf
  | o :: l, h, hf => by
    simp only [allocsOf]
    split
    · rename_i cells hc
      have h1 := Later.push hf ⟨.var cells, 0, 0⟩
      exact h1.trans (allocs_later l _ h1.fresh)
    · exact allocs_later l h hf
theorem aops_later (CL : CallLater call) : ∀ (l : List AOper) (t : Tmps) (h : Heap) {p : Tmps × Heap}, aops call l t h = some p → Fresh h → Later h p.2
  | [], t, h, p, hv, hf => by cases hv; exact Later.refl hf
  | o :: l, t, h, p, hv, hf => by
    simp only [aops] at hv
    obtain ⟨r, hr, hv⟩ := Option.bind_eq_some_iff.1 hv
    have h1 := astep_later' CL hr hf
    exact h1.trans (aops_later CL l _ _ hv h1.fresh)
theorem aloop_later {step : Tmps → Heap → Option (AExit × Tmps × Heap)} (H : ∀ t h p, step t h = some p → Fresh h → Later h p.2.2) : ∀ (k : Nat) (t : Tmps) (h : Heap) {p : AExit × Tmps × Heap}, aloop step k t h = some p → Fresh h → Later h p.2.2
  | 0, t, h, p, hv, hf => by cases hv
  | k + 1, t, h, p, hv, hf => by
    simp only [aloop] at hv
    obtain ⟨⟨x, t2, h2⟩, hr, hv⟩ := Option.bind_eq_some_iff.1 hv
    have h1 := H _ _ _ hr hf
    cases x with
    | normal => exact h1.trans (aloop_later H k t2 h2 hv h1.fresh)
    | exit i => cases hv; exact h1
    | ret => cases hv; exact h1
theorem acode_later (CL : CallLater call) (fuel : Nat) : ∀ (c : ACode) (t : Tmps) (h : Heap) {p : AExit × Tmps × Heap}, acode call fuel c t h = some p → Fresh h → Later h p.2.2
  | .skip, t, h, p, hv, hf => by cases hv; exact Later.refl hf
  | .reg ops, t, h, p, hv, hf => by
    obtain ⟨r, hr, hv⟩ := Option.bind_eq_some_iff.1 hv
    cases hv
    exact aops_later CL ops t h hr hf
  | .dreg ops looks, t, h, p, hv, hf => by
    obtain ⟨r, hr, hv⟩ := Option.bind_eq_some_iff.1 hv
    cases hv
    have h1 := allocs_later ops h hf
    exact h1.trans (dops_later CL ops looks _ _ _ _ _ hr h1.fresh)
  | .seq a b, t, h, p, hv, hf => by
    obtain ⟨⟨x, t2, h2⟩, hr, hv⟩ := Option.bind_eq_some_iff.1 hv
    have h1 := acode_later CL fuel a t h hr hf
    cases x with
    | normal => exact h1.trans (acode_later CL fuel b t2 h2 hv h1.fresh)
    | exit i => cases hv; exact h1
    | ret => cases hv; exact h1
  | .cond c a b, t, h, p, hv, hf => by
    simp only [acode] at hv
    split at hv
    · rename_i r hr
      cases r with
      | true => exact acode_later CL fuel a t h hv hf
      | false => exact acode_later CL fuel b t h hv hf
    · cases hv
  | .block id c, t, h, p, hv, hf => by
    obtain ⟨⟨x, t2, h2⟩, hr, hv⟩ := Option.bind_eq_some_iff.1 hv
    have h1 := acode_later CL fuel c t h hr hf
    cases x with
    | normal => cases hv; exact h1
    | ret => cases hv; exact h1
    | exit i =>
      simp only at hv
      cases hb : Nat.beq i id with
      | true => rw [hb] at hv; cases hv; exact h1
      | false => rw [hb] at hv; cases hv; exact h1
  | .loop c, t, h, p, hv, hf => by
    simp only [acode] at hv
    exact aloop_later (fun t h p hp hf => acode_later CL fuel c t h hp hf) fuel t h hv hf
  | .exit id, t, h, p, hv, hf => by cases hv; exact Later.refl hf
  | .ret, t, h, p, hv, hf => by cases hv; exact Later.refl hf
end

/-! ### calls -/
/-- The functions that are run, and those that are reckoned. -/
structure Machine (P : Program) (T : Types) (fetch : Nat → Option AFunc) (own : Nat → Option (List AV → Heap → Option (AV × Heap))) : Prop where
  facts : Facts P T
  mixed : P.follows .mixedOrders = true
  code : ∀ f fn, fetch f = some fn → ∃ an gf, P.funcs[f]? = some gf ∧ trFunc T an gf = some fn ∧ (gf.name == "runtime.NumGoroutine") = false
  later : ∀ f g, own f = some g → ∀ args h v h', g args h = some (v, h') → Fresh h → Later h h'
  good : ∀ f g, own f = some g → ∀ (args : List AV) (h : Heap) (v : AV) (h' : Heap), g args h = some (v, h') → ∀ (C : Ctx) (us : Array Value), Sim C h → VRs C args us →
    ∀ (K : Value → World → Prop), (∀ C' u, Trans C C' → Sim C' h' → VR C' v u → K u C'.w) → GoesTo P f us C.w K
theorem argsIn_get : ∀ (l : List AV) (i : Nat) (t : Tmps) (j : Nat), tget (argsIn l i t) j = if i ≤ j ∧ j < i + l.length then l.getD (j - i) undef else tget t j
  | [], i, t, j => by simp only [argsIn, List.length_nil]; rw [if_neg (by omega)]
  | v :: l, i, t, j => by
    simp only [argsIn, List.length_cons]
    rw [argsIn_get l (i + 1) _ j]
    by_cases h : i + 1 ≤ j ∧ j < i + 1 + l.length
    · rw [if_pos h, if_pos (by omega), show j - i = (j - (i + 1)) + 1 by omega]; simp
    · rw [if_neg h]
      by_cases e : j = i
      · subst e
        rw [if_pos (by omega)]
        unfold tget
        rw [Tr.get_set, if_pos rfl]; simp
      · rw [if_neg (by omega)]
        unfold tget
        rw [Tr.get_set, if_neg e]
theorem TR.args {C : Ctx} {args : List AV} {us : Array Value} (H : VRs C args us) {n : Nat} (hn : args.length ≤ n) : TR C (argsIn args 0 .lf) { tmps := us ++ Array.replicate (n - us.size) Go.undef, defers := [] } n := by
  have hsz := H.1
  refine ⟨by simp [hsz]; omega, rfl, fun i => ?_⟩
  rw [argsIn_get]
  rw [Array.getD_eq_getD_getElem?]
  by_cases hi : i < args.length
  · rw [if_pos ⟨Nat.zero_le _, by omega⟩, Array.getElem?_append_left (by omega), Nat.sub_zero]
    have h1 : us[i]? = some us[i] := Array.getElem?_eq_getElem (by omega)
    rw [h1, List.getD_eq_getElem?_getD, List.getElem?_eq_getElem hi]
    exact H.2 i _ _ (List.getElem?_eq_getElem hi) h1
  · rw [if_neg (by omega), Array.getElem?_append_right (by omega), Array.getElem?_replicate]
    have e : tget (.lf : Tmps) i = undef := by unfold tget; rw [Tr.get_lf]; rfl
    rw [e]
    split <;> exact VR.undef C
theorem acall_later {P : Program} {T : Types} {fetch : Nat → Option AFunc} {own : Nat → Option (List AV → Heap → Option (AV × Heap))} (M : Machine P T fetch own) : ∀ n, CallLater (acall fetch own n)
  | 0 => fun f args h v h' hv _ => by cases hv
  | n + 1 => fun f args h v h' hv hf => by
    unfold acall at hv
    cases ho : own f with
    | some g => rw [ho] at hv; exact M.later f g ho args h v h' hv hf
    | none =>
      rw [ho] at hv
      simp only at hv
      obtain ⟨fn, hfn, hv⟩ := Option.bind_eq_some_iff.1 hv
      cases hb : Nat.ble args.length fn.n with
      | false => rw [hb] at hv; cases hv
      | true =>
        rw [hb] at hv
        simp only [cond_true] at hv
        obtain ⟨⟨x, t2, h2⟩, hr, hv⟩ := Option.bind_eq_some_iff.1 hv
        have h1 := acode_later (acall_later M n) n fn.code _ h hr hf
        have fin : ∀ vs : List AV, (some (freeze fn.fz (tupOf vs) h2) : Option (AV × Heap)) = some (v, h') → Later h h' := by
          intro vs hv
          have := freeze_later fn.fz (tupOf vs) h2 h1.fresh
          rw [Option.some.inj hv] at this
          exact h1.trans this
        cases x with
        | exit i => cases hv
        | normal =>
          obtain ⟨vs, _, hv⟩ := Option.bind_eq_some_iff.1 hv
          exact fin vs hv
        | ret =>
          obtain ⟨vs, _, hv⟩ := Option.bind_eq_some_iff.1 hv
          exact fin vs hv
theorem acall_ok {P : Program} {T : Types} {fetch : Nat → Option AFunc} {own : Nat → Option (List AV → Heap → Option (AV × Heap))} (M : Machine P T fetch own) : ∀ n, CallGood P (acall fetch own n)
  | 0 => fun f args h v h' hv _ _ _ _ _ _ => by cases hv
  | n + 1 => fun f args h v h' hv C us S hus K hK => by
    unfold acall at hv
    cases ho : own f with
    | some g => rw [ho] at hv; exact M.good f g ho args h v h' hv C us S hus K hK
    | none =>
      rw [ho] at hv
      simp only at hv
      obtain ⟨fn, hfn, hv⟩ := Option.bind_eq_some_iff.1 hv
      cases hb : Nat.ble args.length fn.n with
      | false => rw [hb] at hv; cases hv
      | true =>
        rw [hb] at hv
        simp only [cond_true] at hv
        obtain ⟨⟨x, t2, h2⟩, hr, hv⟩ := Option.bind_eq_some_iff.1 hv
        obtain ⟨an, gf, hgf, htr, hname⟩ := M.code f fn hfn
        obtain ⟨c, hc, htr⟩ := Option.bind_eq_some_iff.1 htr
        obtain ⟨c', hc', htr⟩ := Option.bind_eq_some_iff.1 htr
        obtain ⟨res, hres, htr⟩ := Option.bind_eq_some_iff.1 htr
        simp only [Option.some.injEq] at htr
        subst htr
        have hcall : ∀ w, (callFunc f us).run P w = .ok (.enter f us) w := by
          intro w
          have hne : ¬ gf.name = "runtime.NumGoroutine" := by simpa using hname
          simp [callFunc, hgf, hne, hc]
        unfold GoesTo
        rw [hcall]
        simp only
        have hvs : ∃ vs, resAll t2 h2 res = some vs ∧ (x = .normal ∨ x = .ret) ∧ freeze an.res (tupOf vs) h2 = (v, h') := by
          cases x with
          | exit i => cases hv
          | normal =>
            obtain ⟨vs, h1, hv⟩ := Option.bind_eq_some_iff.1 hv
            exact ⟨vs, h1, .inl rfl, Option.some.inj hv⟩
          | ret =>
            obtain ⟨vs, h1, hv⟩ := Option.bind_eq_some_iff.1 hv
            exact ⟨vs, h1, .inr rfl, Option.some.inj hv⟩
        obtain ⟨vs, hvs, hx, hfin⟩ := hvs
        refine calls_of_wp hgf hc (acode_ok M.facts (acall_ok M n) (dreg_ok M.facts M.mixed (acall_ok M n) (acall_later M n)) n c hc' hr S (TR.args hus (Nat.le_of_ble_eq_true hb)) fun C' a' Tr S' hT' => ?_)
        obtain ⟨us', h1, h3, h4⟩ := resAll_ok (P := P) M.facts S' hT' hres hvs
        have hres' : (results gf a'.tmps).run P C'.w = .ok (if h : us'.toArray.size = 1 then us'.toArray[0] else .tuple us'.toArray) C'.w := by
          have e : results gf a'.tmps = (do
            let vs ← gf.results.mapM (fun r => (match r with | .tmp t => pure (a'.tmps.getD t Go.undef) | .cell x ty => (do loadVar ty (← asAddr (a'.tmps.getD x Go.undef))) : Sem Value))
            pure (if h : vs.size = 1 then vs[0] else .tuple vs)) := rfl
          rw [e]
          simp only [Array.mapM_eq_mapM_toList, Sem.run_bind, Sem.run_map, Sem.run_pure]
          exact congrArg (fun r => (Result.andThen r fun (a : List Value) w' => Result.ok a.toArray w').andThen fun (a : Array Value) w' => Result.ok (if h : a.size = 1 then a[0] else Value.tuple a) w') h1
        have hvr : VR C' (tupOf vs) (if h : us'.toArray.size = 1 then us'.toArray[0] else .tuple us'.toArray) := by
          have tupl : us'.length ≠ 1 → VR C' (.tup vs) (if h : us'.toArray.size = 1 then us'.toArray[0] else .tuple us'.toArray) := by
            intro hne
            rw [dif_neg (by simpa using hne)]
            exact .tup vs us'.toArray (by simpa using h3) fun i x v hx hv => h4 i x v hx (by simpa using hv)
          by_cases h5 : us'.length = 1
          · obtain ⟨v0, hv0⟩ := List.length_eq_one_iff.1 (show vs.length = 1 by omega)
            obtain ⟨u0, hu0⟩ := List.length_eq_one_iff.1 h5
            rw [dif_pos (by simpa using h5)]
            subst hv0; subst hu0
            exact h4 0 v0 u0 rfl (by simp)
          · have e : tupOf vs = .tup vs := by
              unfold tupOf
              split
              · simp at h3; omega
              · rfl
            rw [e]
            exact tupl h5
        have done : ∃ u, (results gf a'.tmps).run P C'.w = .ok u C'.w ∧ K u C'.w := by
          refine ⟨_, hres', ?_⟩
          obtain ⟨C2, hw, T2, S2, H2, _⟩ := freeze_ok an.res (tupOf vs) C' h2 S'
          rw [hfin] at S2 H2
          have := hK C2 _ (Tr.trans T2) S2 (H2.vr _ hvr)
          rw [hw] at this
          exact this
        rcases hx with rfl | rfl
        · exact ⟨hT'.defers, done⟩
        · exact ⟨hT'.defers, done⟩
end Go.AM
