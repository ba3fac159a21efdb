/- Regions in the text's order. -/
import Derived.Test.YtlkhbglofkfioaaGreatB4
import Derived.Scope
set_option linter.unusedVariables false
set_option linter.unusedSimpArgs false
namespace Go.AM
open Go
section
variable {P : Program} {T : Types} {o : Oper} {a : Act} {C : Ctx} {h : Heap} {t : Tmps} {n : Nat} {call : CallF} {an : Ann}

theorem VR.not_bool {x : AV} {u : Value} (h : VR C x u) (hx : ∀ b, x ≠ .bool b) : ∀ b, u ≠ .bool b := by
  cases h <;> first | (intro b hb; cases hb; done) | (rename_i c; exact absurd rfl (hx c))
theorem getD_at {vs : Array Value} {d : Nat} (hd : d < vs.size) : vs[d]? = some (vs.getD d Go.undef) := by
  rw [Array.getElem?_eq_getElem hd, Array.getD_eq_getD_getElem?, Array.getElem?_eq_getElem hd]; rfl
/-- What the translation says of an operation. -/
structure OperTr (T : Types) (an : Ann) (n : Nat) (ops : Array Oper) (o : Oper) (o' : AOper) : Prop where
  op : trOp T an o.dst o.op = some o'.op
  dst : o'.dst = o.dst
  lt : ∀ d, o.dst = some d → d < n
  fz : o'.fz = 0
  guard : match o.guard with
    | none => o'.guard = none
    | some (g, b) => ∃ d, (ops[g]?).bind (·.dst) = some d ∧ d < n ∧ o'.guard = some (d, b)
theorem trOper_ok {ops : Array Oper} {o' : AOper} (htr : trOper T an n ops o = some o') : OperTr T an n ops o o' := by
  unfold trOper at htr
  obtain ⟨op, hop, htr⟩ := bind2 htr
  cases key : dstOk n o.dst with
  | false => rw [key] at htr; cases htr
  | true =>
  rw [key] at htr
  simp only [if_true] at htr
  have hlt : ∀ d, o.dst = some d → d < n := fun d he => by rw [he] at key; exact Nat.le_of_ble_eq_true key
  cases hg : o.guard with
  | none =>
    rw [hg] at htr
    cases htr
    exact ⟨hop, rfl, hlt, rfl, by simp [hg]⟩
  | some p =>
    obtain ⟨g, b⟩ := p
    rw [hg] at htr
    simp only at htr
    cases hd2 : (ops[g]?).bind (·.dst) with
    | none => rw [hd2] at htr; cases htr
    | some d =>
      rw [hd2] at htr
      simp only at htr
      by_cases hdn : d < n
      · rw [if_pos hdn] at htr
        cases htr
        exact ⟨hop, rfl, hlt, rfl, by simp only [hg]; exact ⟨d, hd2, hdn, rfl⟩⟩
      · rw [if_neg hdn] at htr
        cases htr
theorem wanted_ok {ops : Array Oper} {o' : AOper} (H : OperTr T an n ops o o') (hT : TR C t a n) : Region.wanted o (yielded ops a.tmps) = wanted t o'.guard := by
  have hg := H.guard
  unfold Region.wanted
  cases hgo : o.guard with
  | none =>
    rw [hgo] at hg
    simp only at hg
    rw [hg]; rfl
  | some p =>
    obtain ⟨g, b⟩ := p
    rw [hgo] at hg
    obtain ⟨d, hd, hdn, hg⟩ := hg
    rw [hg]
    have hv := hT.vr d
    have hy : yielded ops a.tmps g = match a.tmps.getD d Go.undef with | .bool r => some r | _ => none := by
      unfold yielded
      rw [hd, Option.bind_some, getD_at (by rw [hT.size]; exact hdn)]
      generalize a.tmps.getD d Go.undef = z
      cases z <;> rfl
    simp only [hy]
    unfold wanted
    simp only
    cases hx : tget t d with
    | bool r =>
      rw [hx] at hv
      rw [VR.bool_inv hv]
      cases r <;> cases b <;> rfl
    | _ =>
      have hnb := hv.not_bool (by rw [hx]; intro b hb; cases hb)
      split
      · rename_i r hr
        exact absurd hr (hnb r)
      · rfl
/-- An operation, wanted or not. -/
theorem astep_ok (F : Facts P T) (CG : CallGood P call) {ops : Array Oper} {o' : AOper} (H : OperTr T an n ops o o') (S : Sim C h) (hT : TR C t a n) {t' : Tmps} {h' : Heap} (hv : astep call o' t h = some (t', h'))
    {K : Act → World → Prop} {Q : Exit → Act → World → Prop} (hK : ∀ C' a', Trans C C' → Sim C' h' → TR C' t' a' n → K a' C'.w) :
    if Region.wanted o (yielded ops a.tmps) then o.wp P a C.w K Q else K (a.put o.dst Go.undef) C.w := by
  rw [wanted_ok H hT]
  unfold astep at hv
  cases hw : wanted t o'.guard with
  | true =>
    rw [hw] at hv
    simp only [cond_true, Option.bind_eq_some_iff] at hv
    obtain ⟨p, hp, hv⟩ := hv
    rw [H.fz] at hv
    simp only [Option.some.injEq, Prod.mk.injEq] at hv
    obtain ⟨rfl, rfl⟩ := hv
    simp only [if_true]
    refine aop_ok F CG H.op S hT (v := p.1) (h' := p.2) (by rw [hp]) K Q fun C' u Tr S' hvr => ?_
    refine hK C' _ Tr S' ?_
    rw [H.dst]
    exact (hT.trans Tr).put H.lt hvr
  | false =>
    rw [hw] at hv
    simp only [cond_false, Option.some.injEq, Prod.mk.injEq] at hv
    obtain ⟨rfl, rfl⟩ := hv
    simp only [Bool.false_eq_true, if_false]
    refine hK C _ (Trans.refl C) S ?_
    rw [H.dst]
    exact hT.put H.lt (VR.undef C)
theorem trOpers_ok {ops : Array Oper} : ∀ {l : List Oper} {l' : List AOper}, trOpers T an n ops l = some l' → l'.length = l.length ∧ ∀ (i : Nat) (o : Oper) (o' : AOper), l[i]? = some o → l'[i]? = some o' → OperTr T an n ops o o'
  | [], l', hl => by simp only [trOpers, Option.some.injEq] at hl; subst hl; exact ⟨rfl, fun i o o' h => by simp at h⟩
  | o :: l, l', hl => by
    obtain ⟨o', ho, hl⟩ := bind2 hl
    obtain ⟨r', hr, hl⟩ := bind2 hl
    cases hl
    obtain ⟨h1, h2⟩ := trOpers_ok hr
    refine ⟨by simp [h1], fun i x x' hx hx' => ?_⟩
    cases i with
    | zero =>
      simp at hx hx'
      subst hx; subst hx'
      exact trOper_ok ho
    | succ i => exact h2 i x x' (by simpa using hx) (by simpa using hx')
theorem aops_ok (F : Facts P T) (CG : CallGood P call) {ops : Array Oper} {Q : Exit → Act → World → Prop} : ∀ {l : List Oper} {l' : List AOper} {C : Ctx} {h : Heap} {t : Tmps} {a : Act} {t' : Tmps} {h' : Heap}, trOpers T an n ops l = some l' → Sim C h → TR C t a n → aops call l' t h = some (t', h') →
    (∀ C' a', Trans C C' → Sim C' h' → TR C' t' a' n → Q .normal a' C'.w) → wpList P ops Q l a C.w
  | [], l', C, h, t, a, t', h', hl, S, hT, hv, hQ => by
    simp only [trOpers, Option.some.injEq] at hl
    subst hl
    simp only [aops, Option.some.injEq, Prod.mk.injEq] at hv
    obtain ⟨rfl, rfl⟩ := hv
    exact hQ C a (Trans.refl C) S hT
  | o :: l, l', C, h, t, a, t', h', hl, S, hT, hv, hQ => by
    obtain ⟨o', ho, hl⟩ := bind2 hl
    obtain ⟨r', hr, hl⟩ := bind2 hl
    cases hl
    simp only [aops, Option.bind_eq_some_iff] at hv
    obtain ⟨p, hp, hv⟩ := hv
    have := astep_ok F CG (trOper_ok ho) S hT (t' := p.1) (h' := p.2) (by rw [hp]) (K := wpList P ops Q l) (Q := Q) fun C' a' Tr S' hT' => aops_ok F CG hr S' hT' hv fun C'' a'' Tr' S'' hT'' => hQ C'' a'' (Tr.trans Tr') S'' hT''
    unfold wpList
    split
    · rename_i hw
      rw [if_pos hw] at this
      exact .inl this
    · rename_i hw
      rw [if_neg hw] at this
      exact this

/-! ### code -/
def exitOf : AExit → Exit
  | .normal => .normal
  | .exit id => .exit id
  | .ret => .ret
theorem wp_loop_unroll {c : Code} {Q : Exit → Act → World → Prop} (I : Nat → Act → World → Prop) (round : ∀ k a w, I (k + 1) a w → c.wp P (Exit.then (I k) Q) a w) (h0 : ∀ a w, ¬ I 0 a w) {k : Nat} {w : World} (hI : I k a w) : (Code.loop c).wp P Q a w := by
  intro b ks cs
  have key : ∀ k a w, I k a w → ∃ e a' w', Q e a' w' ∧ Arrives P (lone (b.at a (.code c :: .inLoop c :: ks)) cs w) b ks cs e a' w' := by
    intro k
    induction k with
    | zero => exact fun a w hI => absurd hI (h0 a w)
    | succ k ih =>
      intro a w hI
      obtain ⟨e, a₁, w₁, hq, harr⟩ := round k a w hI b (.inLoop c :: ks) cs
      cases e with
      | normal =>
        obtain ⟨e₂, a₂, w₂, hq₂, harr₂⟩ := ih a₁ w₁ hq
        exact ⟨e₂, a₂, w₂, hq₂, .of_steps (Steps.trans harr (.one step_inLoop)) harr₂⟩
      | exit id => exact ⟨_, a₁, w₁, hq, .pass (x := .inLoop c) rfl (fun _ _ => .inl (by simp)) harr⟩
      | goto l => exact ⟨_, a₁, w₁, hq, .pass (x := .inLoop c) rfl (fun _ _ => .inl (by simp)) harr⟩
      | ret => exact ⟨_, a₁, w₁, hq, .pass (x := .inLoop c) rfl (fun _ _ => .inl (by simp)) harr⟩
      | panic ch => exact ⟨_, a₁, w₁, hq, .pass (x := .inLoop c) rfl (fun _ _ => .inl (by simp)) harr⟩
      | outgrown => exact ⟨_, a₁, w₁, hq, .pass (x := .inLoop c) rfl (fun _ _ => .inl (by simp)) harr⟩
  obtain ⟨e, a', w', hq, harr⟩ := key k a w hI
  exact ⟨e, a', w', hq, .of_steps (.one step_loop) harr⟩
/-- What is asked of the regions that draw. -/
def DregGood (P : Program) (T : Types) (an : Ann) (n : Nat) (call : CallF) : Prop :=
  ∀ (id : Nat) (ops : Array Oper) (l : List AOper) (looks : List (Nat × Nat)) (C : Ctx) (h : Heap) (t : Tmps) (a : Act) (t' : Tmps) (h' : Heap) (Q : Exit → Act → World → Prop), trCode T an n (.region id ops true) = some (.dreg l looks) → Sim C h → TR C t a n →
    dops call l looks t (allocsOf l h) h.next [allocsOf l h] [] = some (t', h') → (∀ C' a', Trans C C' → Sim C' h' → TR C' t' a' n → Q .normal a' C'.w) → (Code.region id ops true).wp P Q a C.w
theorem acode_ok (F : Facts P T) (CG : CallGood P call) (DG : DregGood P T an n call) (fuel : Nat) : ∀ (c : Code) {c' : ACode} {C : Ctx} {h : Heap} {t : Tmps} {a : Act} {x : AExit} {t' : Tmps} {h' : Heap} {Q : Exit → Act → World → Prop}, trCode T an n c = some c' → acode call fuel c' t h = some (x, t', h') → Sim C h → TR C t a n →
    (∀ C' a', Trans C C' → Sim C' h' → TR C' t' a' n → Q (exitOf x) a' C'.w) → c.wp P Q a C.w
  | .skip, c', C, h, t, a, x, t', h', Q, htr, hv, S, hT, hQ => by
    cases htr; cases hv
    exact wp_skip (hQ C a (Trans.refl C) S hT)
  | .label _, c', C, h, t, a, x, t', h', Q, htr, hv, S, hT, hQ => by
    cases htr; cases hv
    exact wp_label (hQ C a (Trans.refl C) S hT)
  | .region id ops draw, c', C, h, t, a, x, t', h', Q, htr, hv, S, hT, hQ => by
    have htr0 := htr
    obtain ⟨l, hl, htr⟩ := bind2 htr
    cases draw with
    | false =>
      cases htr
      obtain ⟨p, hp, hv⟩ := bind2 hv
      cases hv
      exact wp_region_list (aops_ok F CG hl S hT (t' := p.1) (h' := p.2) (by rw [hp]) hQ)
    | true =>
      simp only [if_true] at htr
      split at htr
      · cases htr
        obtain ⟨p, hp, hv⟩ := bind2 hv
        cases hv
        exact DG id ops _ _ C h t a p.1 p.2 Q htr0 S hT (by rw [hp]) hQ
      · cases htr
  | .seq c1 c2, c', C, h, t, a, x, t', h', Q, htr, hv, S, hT, hQ => by
    obtain ⟨c1', h1, htr⟩ := bind2 htr
    obtain ⟨c2', h2, htr⟩ := bind2 htr
    cases htr
    obtain ⟨p, hp, hv⟩ := bind2 hv
    obtain ⟨x1, t1, hh1⟩ := p
    refine wp_seq (acode_ok F CG DG fuel c1 h1 hp S hT fun C' a' Tr S' hT' => ?_)
    cases x1 with
    | normal => exact acode_ok F CG DG fuel c2 h2 hv S' hT' fun C'' a'' Tr' S'' hT'' => hQ C'' a'' (Tr.trans Tr') S'' hT''
    | exit i => cases hv; exact hQ C' a' Tr S' hT'
    | ret => cases hv; exact hQ C' a' Tr S' hT'
  | .cond c1 c2 c3, c', C, h, t, a, x, t', h', Q, htr, hv, S, hT, hQ => by
    obtain ⟨o', ho, htr⟩ := bind2 htr
    obtain ⟨c2', h2, htr⟩ := bind2 htr
    obtain ⟨c3', h3, htr⟩ := bind2 htr
    cases htr
    simp only [acode] at hv
    split at hv
    · rename_i r hr
      have hb := ev_ok hT ho
      rw [hr] at hb
      have hb := VR.bool_inv hb
      cases r with
      | true => exact wp_cond_true hb (acode_ok F CG DG fuel c2 h2 hv S hT hQ)
      | false => exact wp_cond_false hb (acode_ok F CG DG fuel c3 h3 hv S hT hQ)
    · cases hv
  | .block id c1, c', C, h, t, a, x, t', h', Q, htr, hv, S, hT, hQ => by
    obtain ⟨c1', h1, htr⟩ := bind2 htr
    cases htr
    obtain ⟨p, hp, hv⟩ := bind2 hv
    obtain ⟨x1, t1, hh1⟩ := p
    refine wp_block (acode_ok F CG DG fuel c1 h1 hp S hT fun C' a' Tr S' hT' => ?_)
    cases x1 with
    | normal => cases hv; exact hQ C' a' Tr S' hT'
    | ret => cases hv; exact hQ C' a' Tr S' hT'
    | exit i =>
      simp only at hv
      cases hb : Nat.beq i id with
      | true =>
        rw [hb] at hv
        cases hv
        have := Nat.eq_of_beq_eq_true hb
        subst this
        show Exit.inBlock i Q (.exit i) a' C'.w
        simp only [Exit.inBlock, if_true]
        exact hQ C' a' Tr S' hT'
      | false =>
        rw [hb] at hv
        cases hv
        show Exit.inBlock id Q (.exit i) a' C'.w
        have hne : ¬ (i = id) := fun e => by subst e; simp at hb
        simp only [Exit.inBlock, hne, if_false]
        exact hQ C' a' Tr S' hT'
  | .loop c1, c', C, h, t, a, x, t', h', Q, htr, hv, S, hT, hQ => by
    obtain ⟨c1', h1, htr⟩ := bind2 htr
    cases htr
    simp only [acode] at hv
    refine wp_loop_unroll (fun k a w => ∃ C1 t1 hh1, C1.w = w ∧ Trans C C1 ∧ Sim C1 hh1 ∧ TR C1 t1 a n ∧ aloop (acode call fuel c1') k t1 hh1 = some (x, t', h')) (fun k a1 w1 hI => ?_) (fun a w hI => ?_) (k := fuel) ⟨C, t, h, rfl, Trans.refl C, S, hT, hv⟩
    · obtain ⟨C1, t1, hh1, rfl, T1, S1, hT1, hv1⟩ := hI
      simp only [aloop, Option.bind_eq_some_iff] at hv1
      obtain ⟨⟨x2, t2, hh2⟩, hp2, hv2⟩ := hv1
      refine acode_ok F CG DG fuel c1 h1 hp2 S1 hT1 fun C2 a2 T2 S2 hT2 => ?_
      cases x2 with
      | normal => exact ⟨C2, t2, hh2, rfl, T1.trans T2, S2, hT2, hv2⟩
      | exit i => cases hv2; exact hQ C2 a2 (T1.trans T2) S2 hT2
      | ret => cases hv2; exact hQ C2 a2 (T1.trans T2) S2 hT2
    · obtain ⟨C1, t1, hh1, _, _, _, _, hv1⟩ := hI
      cases hv1
  | .exit id, c', C, h, t, a, x, t', h', Q, htr, hv, S, hT, hQ => by
    cases htr; cases hv
    exact wp_exit (hQ C a (Trans.refl C) S hT)
  | .ret, c', C, h, t, a, x, t', h', Q, htr, hv, S, hT, hQ => by
    cases htr; cases hv
    exact wp_ret (hQ C a (Trans.refl C) S hT)
  | .rangeFunc _ _ _ _, c', C, h, t, a, x, t', h', Q, htr, hv, S, hT, hQ => by cases htr
  | .scope c1, c', C, h, t, a, x, t', h', Q, htr, hv, S, hT, hQ => by
    refine wp_scope_straight (acode_ok F CG DG fuel c1 htr hv S hT fun C' a' Tr S' hT' => ?_)
    have := hQ C' a' Tr S' hT'
    cases x <;> exact this
  | .goto _, c', C, h, t, a, x, t', h', Q, htr, hv, S, hT, hQ => by cases htr
  | .refuse _, c', C, h, t, a, x, t', h', Q, htr, hv, S, hT, hQ => by cases htr

/-! ### what a function hands back -/
theorem resOf_ok (F : Facts P T) {r : ResultVar} {r' : ARes} (hr : trRes T r = some r') (S : Sim C h) (hT : TR C t a n) {v : AV} (hv : resOf t h r' = some v) :
    ∃ u, ((match r with | .tmp t => pure (a.tmps.getD t Go.undef) | .cell x ty => (do loadVar ty (← asAddr (a.tmps.getD x Go.undef))) : Sem Value)).run P C.w = .ok u C.w ∧ VR C v u := by
  cases r with
  | tmp d =>
    cases hr
    cases hv
    exact ⟨_, rfl, hT.vr d⟩
  | cell x ty =>
    obtain ⟨ti, ht, hr⟩ := bind2 hr
    cases hr
    have hx := hT.vr x
    simp only [resOf] at hv
    obtain ⟨u, h1, h2⟩ := load_ok (P := P) F ht S hx hv
    have hp : ∃ ad, a.tmps.getD x Go.undef = .pointer (some ad) := by
      generalize a.tmps.getD x Go.undef = y at hx
      unfold loadAt at hv
      split at hv
      · rename_i he; rw [he] at hx; cases hx; exact ⟨_, rfl⟩
      · rename_i he; rw [he] at hx; cases hx; exact ⟨_, rfl⟩
      · rename_i he; rw [he] at hx; cases hx; exact ⟨_, rfl⟩
      · cases hv
    obtain ⟨ad, had⟩ := hp
    rw [had] at h1
    refine ⟨u, ?_, h2⟩
    simp only [had]
    simp only [Instr.loadAt, Instr.sureAddr, Sem.run_bind, Sem.run_pure, Result.andThen_ok] at h1
    simp only [asAddr, Sem.run_bind, Sem.run_pure, Result.andThen_ok, h1]
theorem resAll_ok (F : Facts P T) (S : Sim C h) (hT : TR C t a n) : ∀ {l : List ResultVar} {l' : List ARes} {vs : List AV}, trResL T l = some l' → resAll t h l' = some vs →
    ∃ us : List Value, (l.mapM (fun r => (match r with | .tmp t => pure (a.tmps.getD t Go.undef) | .cell x ty => (do loadVar ty (← asAddr (a.tmps.getD x Go.undef))) : Sem Value))).run P C.w = .ok us C.w ∧ us.length = vs.length ∧ ∀ (i : Nat) (x : AV) (u : Value), vs[i]? = some x → us[i]? = some u → VR C x u
  | [], l', vs, hl, hv => by
    cases hl; cases hv
    exact ⟨[], by simp, rfl, fun i x u h => by simp at h⟩
  | r :: l, l', vs, hl, hv => by
    obtain ⟨r', hr, hl⟩ := bind2 hl
    obtain ⟨l2, hl2, hl⟩ := bind2 hl
    cases hl
    obtain ⟨v, hv1, hv⟩ := bind2 hv
    obtain ⟨vs2, hv2, hv⟩ := bind2 hv
    cases hv
    obtain ⟨u, h1, h2⟩ := resOf_ok F hr S hT hv1
    obtain ⟨us, h3, h4, h5⟩ := resAll_ok F S hT hl2 hv2
    refine ⟨u :: us, ?_, by simp [h4], fun i x w hx hw => ?_⟩
    · rw [List.mapM_cons]
      simp only [Sem.run_bind, h1, h3, Result.andThen_ok, Sem.run_pure]
    · cases i with
      | zero => simp at hx hw; subst hx; subst hw; exact h2
      | succ i => exact h5 i x w (by simpa using hx) (by simpa using hw)
end
end Go.AM
