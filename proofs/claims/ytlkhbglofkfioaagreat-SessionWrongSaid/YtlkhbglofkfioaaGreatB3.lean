/- Entering into maps; what is made inline. -/
import Derived.Test.YtlkhbglofkfioaaGreatB2
set_option linter.unusedVariables false
set_option linter.unusedSimpArgs false
namespace Go.AM
open Go
section
variable {P : Program} {T : Types} {o : Oper} {a : Act} {C : Ctx} {h : Heap} {t : Tmps} {n : Nat}

theorem enter_found {agg : Bool} {x v : AV} : ∀ {es es' : List (AV × AV)}, enterMap agg x v es = some es' → ∃ r, lookup agg x es = some r ∧
    (r = none → es' = es ++ [(x, v)]) ∧ (r ≠ none → ∃ j, At agg x es j ∧ es' = es.set j (x, v))
  | [], es', he => by
    simp only [enterMap, Option.some.injEq] at he
    subst he
    exact ⟨none, rfl, fun _ => rfl, fun hv => absurd rfl hv⟩
  | (k', v0) :: es, es', he => by
    simp only [enterMap] at he
    split at he
    · rename_i hq
      cases he
      exact ⟨some v0, by simp [lookup, hq], fun hv => (by cases hv), fun _ => ⟨0, At.zero hq, rfl⟩⟩
    · rename_i hq
      simp only [Option.map_eq_some_iff] at he
      obtain ⟨es2, h1, rfl⟩ := he
      obtain ⟨r, h2, h3, h4⟩ := enter_found h1
      refine ⟨r, by simp [lookup, hq, h2], fun hr => by rw [h3 hr]; rfl, fun hv => ?_⟩
      obtain ⟨j, e1, e2⟩ := h4 hv
      exact ⟨j + 1, e1.succ hq, by rw [e2]; rfl⟩
    · cases he
theorem run_setObj {b : Nat} {ms : Array MapEntry} {clock : Nat} {ob : Go.Obj} {w : World} (hb : w.heap[b]? = some (.map ms clock)) : (setObj b ob).run P w = .ok () { w with heap := w.heap.set! b ob } := by
  simp [setObj, Sem.run, hb]
structure WroteMap (w w' : World) (g : Nat) (ms : Array MapEntry) (clock : Nat) : Prop where
  os : w'.os = w.os
  tape : w'.tape = w.tape
  output : w'.output = w.output
  size : w'.heap.size = w.heap.size
  other : ∀ b, b ≠ g → w'.heap[b]? = w.heap[b]?
  here : w'.heap[g]? = some (.map ms clock)
theorem WroteMap.set {w : World} {g : Nat} (hg : g < w.heap.size) (ms : Array MapEntry) (clock : Nat) : WroteMap w { w with heap := w.heap.set! g (.map ms clock) } g ms clock where
  os := rfl
  tape := rfl
  output := rfl
  size := by simp
  other b hb := by simp [Array.getElem?_setIfInBounds_ne (Ne.symm hb)]
  here := by simp [hg]
theorem WroteMap.wrote {w w' : World} {g : Nat} {ms : Array MapEntry} {clock : Nat} (W : WroteMap w w' g ms clock) {ms0 : Array MapEntry} {c0 : Nat} (h0 : w.heap[g]? = some (.map ms0 c0)) : Wrote w w' g :=
  ⟨W.os, W.tape, W.output, W.size, W.other, fun row e hr => by rw [h0] at hr; cases hr⟩
theorem Sim.setMap (S : Sim C h) {id v st : Nat} {es es' : List (AV × AV)} (hg : h.get id = some ⟨.map es, v, st⟩) {l : Loc} {ms0 : Array MapEntry} {c0 : Nat} (hl : C.loc id = some l) (ho : C.own l.blk) (h0 : C.w.heap[l.blk]? = some (.map ms0 c0)) {w : World} {ms : Array MapEntry} {clock : Nat} (W : WroteMap C.w w l.blk ms clock)
    (H : Found C es' ms.toList) (st' : Nat) : Trans C (C.at_ w) ∧ Sim (C.at_ w) (h.put id ⟨.map es', v, st'⟩) := by
  have Tr := Trans.wrote (W.wrote h0) ho
  refine ⟨Tr, S.wrote id l (W.wrote h0) hl ho (fun j hj => by rw [Heap.get_put, if_neg hj]) (by rw [verOf_put, if_pos rfl]; unfold verOf; rw [hg]) (fun j hj => ?_) ?_⟩
  · rw [Heap.get_put, if_neg (fun e => by subst e; have := S.fresh _ hj; rw [hg] at this; cases this)]
    exact S.fresh j hj
  · rw [Heap.get_put, if_pos rfl]
    obtain ⟨hv0, l2, _, _, hl2, _, hb2, _⟩ := S.map hg
    rw [hl] at hl2
    cases hl2
    exact ⟨hv0, l, hl, ho, hb2, ms, clock, W.here, by simpa using H.1, fun i p m hp hm => ⟨((H.2 i p m hp (by simpa using hm)).1).trans Tr, ((H.2 i p m hp (by simpa using hm)).2).trans Tr⟩⟩
theorem op_mupd {ty kt e : TypeId} {ti : TI} {agg : Bool} {m k x : Operand} {m' k' x' : AOpd} (F : Facts P T) (hop : o.op = .mapUpdate ty m k x) (ht : T ty = some ti) (hk : ti.kind = .map kt e) (hkt : KeyTy P agg kt) (hm : trOpd m = some m') (hkk : trOpd k = some k') (hx : trOpd x = some x') (S : Sim C h) (hT : TR C t a n)
    {id v st : Nat} {es es' : List (AV × AV)} (he : ev t m' = .mp id) (hg : h.get id = some ⟨.map es, v, st⟩) (hl : enterOk agg (ev t k') (ev t x') es = some es') : OpGood P o a C (h.put id ⟨.map es', v, st + 1⟩) undef := by
  have hmv := ev_ok hT hm
  have hkv := ev_ok hT hkk
  have hxv := ev_ok hT hx
  rw [he] at hmv
  obtain ⟨l', hu, hl', _⟩ := VR.mp_inv hmv
  obtain ⟨_, l, ms, clock, hloc, how, hb, hheap, H⟩ := S.map hg
  rw [hl'] at hloc
  cases hloc
  have hko : keyOk agg (ev t k') = true := by
    unfold enterOk at hl
    cases hq : keyOk agg (ev t k') with
    | true => rfl
    | false => rw [hq] at hl; cases hl
  have hl2 : enterMap agg (ev t k') (ev t x') es = some es' := by unfold enterOk at hl; rw [hko] at hl; exact hl
  obtain ⟨r, hlk, hno, hyes⟩ := enter_found hl2
  obtain ⟨d, hd, hdb⟩ := F.und ht
  rw [hk] at hdb
  have hdm := (desc_map hdb).1
  subst hdm
  obtain ⟨q, hq, hy⟩ := findKey_ok hkt hkv hko C.w H hlk
  have hck := fun b => checkKey_ok (P := P) (b := b) hkt hko hkv C.w
  have hlt : l'.blk < C.w.heap.size := S.loc_lt hl'
  cases r with
  | none =>
    have : q = none := hy
    subst this
    have hes := hno rfl
    have W := WroteMap.set (w := C.w) hlt (ms.push { key := a.eval k, val := a.eval x, born := clock }) (clock + 1)
    obtain ⟨Tr, S'⟩ := S.setMap hg hl' how hheap W (es' := es') ⟨by rw [hes]; have := H.1; simp at this ⊢; exact this, fun i p mm hp hmm => by
      rw [hes] at hp
      have hsz := H.1
      simp only [Array.length_toList] at hsz
      by_cases hi : i < es.length
      · rw [List.getElem?_append_left hi] at hp
        rw [Array.toList_push, List.getElem?_append_left (by simpa [hsz] using hi)] at hmm
        exact H.2 i p mm hp hmm
      · rw [List.getElem?_append_right (by omega)] at hp
        rw [Array.toList_push, List.getElem?_append_right (by simp; omega)] at hmm
        have h0 : i - es.length = 0 := by
          have := (List.getElem?_eq_some_iff.1 hp).1
          simp at this; omega
        simp only [Array.length_toList, hsz] at hmm
        rw [h0] at hp hmm
        simp at hp hmm
        subst hp; subst hmm
        exact ⟨hkv, hxv⟩⟩ (st + 1)
    refine OpGood.skip (C' := C.at_ { C.w with heap := C.w.heap.set! l'.blk (.map (ms.push { key := a.eval k, val := a.eval x, born := clock }) (clock + 1)) }) ?_ Tr S'
    simp [execOp, hop, hu, Instr.mapUpdate, underlying, hd, run_getObj hheap, hck, hq, run_setObj hheap, Ctx.at_]
  | some v' =>
    obtain ⟨j, mm, p, rfl, hmj, hpj, hpv, hvr, hat⟩ := hy
    obtain ⟨j2, hat2, hes⟩ := hyes (by simp)
    have hjj := hat2.unique hat
    subst hjj
    obtain ⟨⟨p2, hp2, hpk⟩, _⟩ := hat
    rw [hpj] at hp2
    cases hp2
    obtain ⟨hkey, _⟩ := H.2 j2 p mm hpj hmj
    have hbits := key_bits hpk hkv hkey
    have hmj' : ms[j2]? = some mm := by simpa using hmj
    have hkts : (Instr.keyThatStays mm.key (a.eval k)).run P C.w = .ok (a.eval k) C.w := by simp [Instr.keyThatStays, hbits]
    have W := WroteMap.set (w := C.w) hlt (ms.modify j2 fun e => { e with key := a.eval k, val := a.eval x }) clock
    obtain ⟨Tr, S'⟩ := S.setMap hg hl' how hheap W (es' := es') ⟨by rw [hes]; have := H.1; simp at this ⊢; exact this, fun i p3 m3 hp3 hm3 => by
      rw [hes] at hp3
      rw [Array.getElem?_toList, Array.getElem?_modify] at hm3
      by_cases hi : j2 = i
      · subst hi
        rw [if_pos rfl, hmj'] at hm3
        rw [List.getElem?_set_self (List.getElem?_eq_some_iff.1 hpj).1] at hp3
        simp at hp3 hm3
        subst hp3; subst hm3
        exact ⟨hkv, hxv⟩
      · rw [if_neg hi] at hm3
        rw [List.getElem?_set_ne hi] at hp3
        exact H.2 i p3 m3 hp3 (by simpa using hm3)⟩ (st + 1)
    refine OpGood.skip (C' := C.at_ { C.w with heap := C.w.heap.set! l'.blk (.map (ms.modify j2 fun e => { e with key := a.eval k, val := a.eval x }) clock) }) ?_ Tr S'
    simp [execOp, hop, hu, Instr.mapUpdate, underlying, hd, run_getObj hheap, hck, hq, hmj', hkts, run_setObj hheap, Ctx.at_]

/-! ### what is made inline -/
/-- What stands for a value is another now; the cells likewise. -/
structure Turned (C : Ctx) (x : AV) (C' : Ctx) (x' : AV) : Prop where
  vr : ∀ u, VR C x u → VR C' x' u
  len : x'.cells.length = x.cells.length
  sc : scalars x.cells = true → scalars x'.cells = true
  cell : ∀ (j : Nat) (y' : AV), x'.cells[j]? = some y' → ∃ y, x.cells[j]? = some y ∧ ∀ u, VR C y u → VR C' y' u
theorem Turned.refl (C : Ctx) (x : AV) : Turned C x C x := ⟨fun _ h => h, rfl, fun h => h, fun j y h => ⟨y, h, fun _ h => h⟩⟩
theorem Turned.after {C0 C C' C'' : Ctx} {x x' : AV} (h : Turned C x C' x') (T0 : Trans C0 C) (T1 : Trans C' C'') : Turned C0 x C'' x' :=
  ⟨fun u hu => (h.vr u (hu.trans T0)).trans T1, h.len, h.sc, fun j y' hj => by obtain ⟨y, h1, h2⟩ := h.cell j y' hj; exact ⟨y, h1, fun u hu => (h2 u (hu.trans T0)).trans T1⟩⟩
/-- The world stays as it is. -/
def FzGood (C : Ctx) (x : AV) (x' : AV) (h' : Heap) : Prop := ∃ C', C'.w = C.w ∧ Trans C C' ∧ Sim C' h' ∧ Turned C x C' x' ∧ (x.scalar = true → x'.scalar = true)
def FzAll (C : Ctx) (l l' : List AV) (h' : Heap) : Prop := ∃ C', C'.w = C.w ∧ Trans C C' ∧ Sim C' h' ∧ l'.length = l.length ∧ ∀ (i : Nat) (x' : AV), l'[i]? = some x' → ∃ x, l[i]? = some x ∧ Turned C x C' x' ∧ (x.scalar = true → x'.scalar = true)
def fzMany (d : Nat) (l : List AV) (h : Heap) : List AV × Heap := l.foldr (fun x (acc : List AV × Heap) => let (y, h) := freeze d x acc.2; (y :: acc.1, h)) ([], h)
theorem fzMany_ok {d : Nat} (ih : ∀ (x : AV) (C : Ctx) (h : Heap), Sim C h → FzGood C x (freeze d x h).1 (freeze d x h).2) : ∀ (l : List AV) (C : Ctx) (h : Heap), Sim C h → FzAll C l (fzMany d l h).1 (fzMany d l h).2
  | [], C, h, S => ⟨C, rfl, Trans.refl C, S, rfl, fun i x' hi => by simp [fzMany] at hi⟩
  | x :: l, C, h, S => by
    obtain ⟨C1, w1, T1, S1, hl1, h1⟩ := fzMany_ok ih l C h S
    obtain ⟨C2, w2, T2, S2, h2, h3⟩ := ih x C1 _ S1
    refine ⟨C2, w2.trans w1, T1.trans T2, S2, by simp [fzMany] at hl1 ⊢; exact hl1, fun i x' hi => ?_⟩
    have hi' : ((freeze d x (fzMany d l h).2).1 :: (fzMany d l h).1)[i]? = some x' := hi
    cases i with
    | zero =>
      simp at hi'
      subst hi'
      exact ⟨x, rfl, h2.after T1 (Trans.refl _), h3⟩
    | succ i =>
      obtain ⟨y, h4, h5, h6⟩ := h1 i x' (by simpa using hi')
      exact ⟨y, by simpa using h4, h5.after (Trans.refl _) T2, h6⟩
end
end Go.AM
