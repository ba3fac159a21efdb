/- Regions that draw their order: the run in the text's order, told apart. -/
import Derived.Test.YtlkhbglofkfioaaGreatB7
set_option linter.unusedVariables false
set_option linter.unusedSimpArgs false
namespace Go.AM
open Go
/-! ### how many act, how many are made -/
def actsN : List AOper → Nat → Nat
  | _, 0 => 0
  | [], _ => 0
  | o :: r, k + 1 => (bif o.acts then 1 else 0) + actsN r k
def AOper.isAlloc (o : AOper) : Bool := match o.op with | .alloc _ => true | _ => false
def allocN : List AOper → Nat → Nat
  | _, 0 => 0
  | [], _ => 0
  | o :: r, k + 1 => (bif o.isAlloc then 1 else 0) + allocN r k
theorem actsN_zero (l : List AOper) : actsN l 0 = 0 := by cases l <;> rfl
theorem allocN_zero (l : List AOper) : allocN l 0 = 0 := by cases l <;> rfl
theorem actsN_succ : ∀ {l : List AOper} {k : Nat} {o : AOper}, l[k]? = some o → actsN l (k + 1) = actsN l k + (bif o.acts then 1 else 0)
  | [], k, o, h => by simp at h
  | p :: l, 0, o, h => by simp at h; subst h; simp only [actsN, actsN_zero]; omega
  | p :: l, k + 1, o, h => by
    have := actsN_succ (l := l) (k := k) (o := o) (by simpa using h)
    simp only [actsN] at this ⊢
    rw [this]; omega
theorem allocN_succ : ∀ {l : List AOper} {k : Nat} {o : AOper}, l[k]? = some o → allocN l (k + 1) = allocN l k + (bif o.isAlloc then 1 else 0)
  | [], k, o, h => by simp at h
  | p :: l, 0, o, h => by simp at h; subst h; simp only [allocN, allocN_zero]; omega
  | p :: l, k + 1, o, h => by
    have := allocN_succ (l := l) (k := k) (o := o) (by simpa using h)
    simp only [allocN] at this ⊢
    rw [this]; omega
theorem actsN_mono {l : List AOper} {j : Nat} : ∀ {k : Nat}, j ≤ k → k ≤ l.length → actsN l j ≤ actsN l k := by
  intro k
  induction k with
  | zero => intro h _; have : j = 0 := by omega
            subst this; exact Nat.le_refl _
  | succ k ih =>
    intro h hk
    by_cases e : j = k + 1
    · subst e; exact Nat.le_refl _
    · have h1 := ih (by omega) (by omega)
      have h2 := actsN_succ (List.getElem?_eq_getElem (show k < l.length by omega))
      omega
theorem allocN_mono {l : List AOper} {j : Nat} : ∀ {k : Nat}, j ≤ k → k ≤ l.length → allocN l j ≤ allocN l k := by
  intro k
  induction k with
  | zero => intro h _; have : j = 0 := by omega
            subst this; exact Nat.le_refl _
  | succ k ih =>
    intro h hk
    by_cases e : j = k + 1
    · subst e; exact Nat.le_refl _
    · have h1 := ih (by omega) (by omega)
      have h2 := allocN_succ (List.getElem?_eq_getElem (show k < l.length by omega))
      omega
theorem lt_of_get {α : Type} {l : List α} {i : Nat} {x : α} (h : l[i]? = some x) : i < l.length := (List.getElem?_eq_some_iff.1 h).1
theorem actsN_lt {l : List AOper} {j k : Nat} {o : AOper} (hj : l[j]? = some o) (ha : o.acts = true) (h : j < k) (hk : k ≤ l.length) : actsN l j < actsN l k := by
  have h1 := actsN_succ hj
  rw [ha] at h1
  have h2 := actsN_mono (l := l) (j := j + 1) (k := k) h hk
  simp only [cond_true] at h1
  omega
theorem allocN_lt {l : List AOper} {j k : Nat} {o : AOper} (hj : l[j]? = some o) (ha : o.isAlloc = true) (h : j < k) (hk : k ≤ l.length) : allocN l j < allocN l k := by
  have h1 := allocN_succ hj
  rw [ha] at h1
  have h2 := allocN_mono (l := l) (j := j + 1) (k := k) h hk
  simp only [cond_true] at h1
  omega
/-- The one that acts as number c. -/
theorem actsN_at {l : List AOper} {c : Nat} : ∀ {k : Nat}, k ≤ l.length → c < actsN l k → ∃ j o, j < k ∧ l[j]? = some o ∧ o.acts = true ∧ actsN l j = c := by
  intro k
  induction k with
  | zero => intro _ h; rw [actsN_zero] at h; omega
  | succ k ih =>
    intro hk h
    have hg := List.getElem?_eq_getElem (show k < l.length by omega)
    have h2 := actsN_succ hg
    by_cases hc : c < actsN l k
    · obtain ⟨j, o, h3, h4⟩ := ih (by omega) hc
      exact ⟨j, o, by omega, h4⟩
    · cases ha : (l[k]'(by omega)).acts with
      | false => rw [ha] at h2; simp only [cond_false] at h2; omega
      | true => rw [ha] at h2; simp only [cond_true] at h2; exact ⟨k, _, by omega, hg, ha, by omega⟩
/-- A place in the text at which so many have acted. -/
theorem actsN_place {l : List AOper} {c : Nat} (h : c ≤ actsN l l.length) : ∃ k, k ≤ l.length ∧ actsN l k = c := by
  by_cases e : c = actsN l l.length
  · exact ⟨l.length, Nat.le_refl _, e.symm⟩
  · obtain ⟨j, o, h1, h2, h3, h4⟩ := actsN_at (Nat.le_refl _) (show c < actsN l l.length by omega)
    exact ⟨j, by omega, h4⟩
theorem count_le {p : Nat → Bool} {c : Nat} : ∀ (l : List AOper) (k0 b : Nat), (∀ j o, l[j]? = some o → o.acts = true → p (k0 + j) = true → b + actsN l j < c) → b ≤ c → ((l.zipIdx k0).filter fun (q : AOper × Nat) => q.1.acts && p q.2).length + b ≤ c
  | [], k0, b, h, hb => by simpa using hb
  | o :: l, k0, b, h, hb => by
    simp only [List.zipIdx_cons, List.filter_cons]
    cases ha : o.acts with
    | false =>
      simp only [Bool.false_and, Bool.false_eq_true, if_false]
      refine count_le l (k0 + 1) b (fun j q hj hq hp => ?_) hb
      have := h (j + 1) q (by simpa using hj) hq (by rw [← hp]; congr 1; omega)
      simp only [actsN, ha, cond_false] at this
      omega
    | true =>
      cases hp : p k0 with
      | false =>
        simp only [Bool.and_false, Bool.false_eq_true, if_false]
        refine count_le l (k0 + 1) b (fun j q hj hq hp => ?_) hb
        have := h (j + 1) q (by simpa using hj) hq (by rw [← hp]; congr 1; omega)
        simp only [actsN, ha, cond_true] at this
        omega
      | true =>
        simp only [Bool.and_true, if_true, List.length_cons]
        have h0 := h 0 o rfl ha (by simpa using hp)
        simp only [actsN_zero] at h0
        have := count_le (p := p) (c := c) l (k0 + 1) (b + 1) (fun j q hj hq hp => ?_) (by omega)
        · omega
        · have := h (j + 1) q (by simpa using hj) hq (by rw [← hp]; congr 1; omega)
          simp only [actsN, ha, cond_true] at this
          omega
theorem count_ge {p : Nat → Bool} {c : Nat} : ∀ (l : List AOper) (k0 b : Nat), (∀ j o, l[j]? = some o → o.acts = true → p (k0 + j) = true → c ≤ b + actsN l j) → c ≤ b + actsN l l.length → ((l.zipIdx k0).filter fun (q : AOper × Nat) => q.1.acts && p q.2).length + c ≤ b + actsN l l.length
  | [], k0, b, h, hb => by simpa using hb
  | o :: l, k0, b, h, hb => by
    simp only [List.zipIdx_cons, List.filter_cons, List.length_cons, actsN]
    simp only [List.length_cons, actsN] at hb
    cases ha : o.acts with
    | false =>
      rw [ha] at hb
      simp only [Bool.false_and, Bool.false_eq_true, if_false, cond_false] at hb ⊢
      have := count_ge (p := p) (c := c) l (k0 + 1) b (fun j q hj hq hp => ?_) (by omega)
      · omega
      · have := h (j + 1) q (by simpa using hj) hq (by rw [← hp]; congr 1; omega)
        simp only [actsN, ha, cond_false] at this
        omega
    | true =>
      rw [ha] at hb
      cases hp : p k0 with
      | false =>
        simp only [Bool.and_false, Bool.false_eq_true, if_false, cond_true] at hb ⊢
        have := count_ge (p := p) (c := c) l (k0 + 1) (b + 1) (fun j q hj hq hp => ?_) (by omega)
        · omega
        · have := h (j + 1) q (by simpa using hj) hq (by rw [← hp]; congr 1; omega)
          simp only [actsN, ha, cond_true] at this
          omega
      | true =>
        simp only [Bool.and_true, if_true, List.length_cons, cond_true] at hb ⊢
        have h0 := h 0 o rfl ha (by simpa using hp)
        simp only [actsN_zero] at h0
        have := count_ge (p := p) (c := c) l (k0 + 1) b (fun j q hj hq hp => ?_) (by omega)
        · omega
        · omega
theorem acts_total : ∀ (l : List AOper), (l.filter AOper.acts).length = actsN l l.length
  | [] => rfl
  | o :: l => by
    simp only [List.filter_cons, List.length_cons, actsN, ← acts_total l]
    cases o.acts <;> simp <;> omega

/-! ### the run in the text's order -/
section
variable {call : CallF}
theorem dops_trace (q : Nat → Nat × Nat) : ∀ (l : List AOper) (k0 : Nat) (t : Tmps) (h : Heap) (na : Nat) (hs : List Heap) (seen : List (Nat × Nat × Nat × Nat)) {t' : Tmps} {h' : Heap},
    dops call l ((l.zipIdx k0).filterMap fun p => if p.1.look then some (q p.2) else none) t h na hs seen = some (t', h') →
    ∃ (st : Nat → Tmps × Heap × Nat) (fin : List Heap), st 0 = (t, h, na) ∧ (∀ k o, l[k]? = some o → dstep call o (st k).1 (st k).2.1 (st k).2.2 = some (st (k + 1))) ∧ (st l.length).1 = t' ∧ (st l.length).2.1 = h' ∧
      (∀ j, j < hs.length → fin[j]? = hs.reverse[j]?) ∧ (∀ k o, l[k]? = some o → o.acts = true → fin[hs.length + actsN l k]? = some (st (k + 1)).2.1) ∧
      (∀ p ∈ seen, steady fin p.1 p.2.1 p.2.2.1 p.2.2.2 = true) ∧
      (∀ k o, l[k]? = some o → o.look = true → wanted (st k).1 o.guard = true → ∃ s, seenAt (st k).1 (st k).2.1 (st k).2.2 o.op = some s ∧ ∀ x, s = some x → steady fin x.1 x.2 (q (k0 + k)).1 (q (k0 + k)).2 = true)
  | [], k0, t, h, na, hs, seen, t', h', hv => by
    simp only [dops] at hv
    cases hb : (seen.all fun q => steady hs.reverse q.1 q.2.1 q.2.2.1 q.2.2.2) with
    | false => rw [hb] at hv; cases hv
    | true =>
      rw [hb] at hv
      cases hv
      refine ⟨fun _ => (t, h, na), hs.reverse, rfl, fun k o hk => by simp at hk, rfl, rfl, fun j hj => rfl, fun k o hk => by simp at hk, fun p hp => ?_, fun k o hk => by simp at hk⟩
      exact List.all_eq_true.1 hb p hp
  | o :: l, k0, t, h, na, hs, seen, t', h', hv => by
    simp only [dops] at hv
    obtain ⟨p, hp, hv⟩ := Option.bind_eq_some_iff.1 hv
    -- what goes on
    have key : ∃ seen2, dops call l ((l.zipIdx (k0 + 1)).filterMap fun p => if p.1.look then some (q p.2) else none) p.1 p.2.1 p.2.2 (bif o.acts then p.2.1 :: hs else hs) seen2 = some (t', h') ∧ (∀ x ∈ seen, x ∈ seen2) ∧
        (o.look = true → wanted t o.guard = true → ∃ s, seenAt t h na o.op = some s ∧ ∀ x, s = some x → (x.1, x.2, (q k0).1, (q k0).2) ∈ seen2) := by
      simp only [List.zipIdx_cons, List.filterMap_cons] at hv
      cases hl : o.look with
      | false =>
        simp only [hl, cond_false, Bool.false_eq_true, if_false] at hv
        exact ⟨seen, hv, fun _ h => h, fun h => (by cases h)⟩
      | true =>
        simp only [hl, cond_true, if_true] at hv
        cases hw : wanted t o.guard with
        | false =>
          simp only [hw, cond_false] at hv
          exact ⟨seen, hv, fun _ h => h, fun _ h => (by cases h)⟩
        | true =>
          simp only [hw, cond_true] at hv
          obtain ⟨s, hs', hv⟩ := Option.bind_eq_some_iff.1 hv
          cases s with
          | none => exact ⟨seen, hv, fun _ h => h, fun _ _ => ⟨none, hs', fun x hx => by cases hx⟩⟩
          | some x => exact ⟨_, hv, fun _ h => List.mem_cons_of_mem _ h, fun _ _ => ⟨some x, hs', fun y hy => by cases hy; exact List.mem_cons_self⟩⟩
    obtain ⟨seen2, hv2, hsub, hlook⟩ := key
    obtain ⟨st, fin, h0, hstep, hl1, hl2, hold, hact, hseen, hlk⟩ := dops_trace q l (k0 + 1) p.1 p.2.1 p.2.2 _ seen2 hv2
    refine ⟨fun k => match k with | 0 => (t, h, na) | k + 1 => st k, fin, rfl, fun k x hk => ?_, ?_, ?_, fun j hj => ?_, fun k x hk ha => ?_, fun x hx => hseen x (hsub x hx), fun k x hk hlx hw => ?_⟩
    · cases k with
      | zero =>
        simp at hk
        subst hk
        show dstep call o t h na = some (st 0)
        rw [hp, h0]
      | succ k => exact hstep k x (by simpa using hk)
    · exact hl1
    · exact hl2
    · cases ha : o.acts with
      | false => rw [ha] at hold; simp only [cond_false] at hold; exact hold j hj
      | true =>
        rw [ha] at hold
        simp only [cond_true, List.length_cons, List.reverse_cons] at hold
        rw [hold j (by omega), List.getElem?_append_left (by simpa using hj)]
    · cases k with
      | zero =>
        simp at hk
        subst hk
        rw [ha] at hold
        simp only [cond_true, List.length_cons, List.reverse_cons] at hold
        rw [actsN_zero, Nat.add_zero, hold hs.length (by omega)]
        show _ = some (st 0).2.1
        rw [h0]; simp
      | succ k =>
        have := hact k x (by simpa using hk) ha
        show _ = some (st (k + 1)).2.1
        rw [← this]
        cases hb : o.acts with
        | false => simp only [actsN, hb, cond_false]; congr 2; omega
        | true => simp only [actsN, hb, cond_true, List.length_cons]; congr 1; omega
    · cases k with
      | zero =>
        simp at hk
        subst hk
        obtain ⟨s, h1, h2⟩ := hlook hlx hw
        exact ⟨s, h1, fun y hy => by have := hseen _ (h2 y hy); simpa using this⟩
      | succ k =>
        obtain ⟨s, h1, h2⟩ := hlk k x (by simpa using hk) hlx hw
        refine ⟨s, h1, fun y hy => ?_⟩
        have := h2 y hy
        rwa [show k0 + 1 + k = k0 + (k + 1) by omega] at this
/-- Three kinds of operations. -/
theorem kinds {o : AOper} (hz : o.fz = 0) : o.isAlloc = true ∨ (o.isAlloc = false ∧ o.acts = true) ∨ (o.isAlloc = false ∧ o.acts = false ∧ (o.op.pure = true ∨ o.op.peeks = true ∧ o.look = true)) := by
  obtain ⟨dst, op, g, fz⟩ := o
  subst hz
  cases op <;> first
    | (exact .inl rfl)
    | (exact .inr (.inl ⟨rfl, rfl⟩))
    | (exact .inr (.inr ⟨rfl, rfl, .inl rfl⟩))
    | (exact .inr (.inr ⟨rfl, rfl, .inr ⟨rfl, rfl⟩⟩))
    | (rename_i own _; cases own
       · exact .inr (.inr ⟨rfl, rfl, .inl rfl⟩)
       · exact .inr (.inl ⟨rfl, rfl⟩))
theorem alloc_op {o : AOper} (h : o.isAlloc = true) : ∃ cells, o.op = .alloc cells := by
  obtain ⟨dst, op, g, fz⟩ := o
  cases op <;> first | exact ⟨_, rfl⟩ | cases h
theorem alloc_not_acts {o : AOper} (hz : o.fz = 0) (h : o.isAlloc = true) : o.acts = false := by
  obtain ⟨dst, op, g, fz⟩ := o
  subst hz
  cases op <;> first | rfl | cases h
theorem dstep_other {o : AOper} (h : o.isAlloc = false) (t : Tmps) (hp : Heap) (na : Nat) : dstep call o t hp na = (astep call o t hp).bind fun p => some (p.1, p.2, na) := by
  obtain ⟨dst, op, g, fz⟩ := o
  cases op <;> first | rfl | cases h
theorem wanted_congr {t t' : Tmps} {g : Option (Nat × Bool)} (H : ∀ p, g = some p → tget t p.1 = tget t' p.1) : wanted t g = wanted t' g := by
  cases g with
  | none => rfl
  | some p => obtain ⟨g, b⟩ := p; simp only [wanted, H (g, b) rfl]
theorem reads_guard {o : AOper} {p : Nat × Bool} (h : o.guard = some p) : p.1 ∈ o.reads := by
  obtain ⟨dst, op, g, fz⟩ := o
  simp only at h
  subst h
  simp [AOper.reads]
theorem reads_op {o : AOper} {r : Nat} (h : r ∈ o.op.reads) : r ∈ o.reads := by
  unfold AOper.reads
  exact List.mem_append_left _ h
/-- One that acts: its outcome is told by what it reads, and by memory. -/
theorem astep_congr {o : AOper} (hz : o.fz = 0) {t t' : Tmps} {h : Heap} (H : ∀ r ∈ o.reads, tget t r = tget t' r) {p : Tmps × Heap} (hv : astep call o t h = some p) :
    ∃ v, p.1 = tput t o.dst v ∧ astep call o t' h = some (tput t' o.dst v, p.2) := by
  have hw : wanted t o.guard = wanted t' o.guard := wanted_congr fun p hp => H _ (reads_guard hp)
  have ho : aop call t h o.op = aop call t' h o.op := aop_congr fun r hr => H r (reads_op hr)
  unfold astep at hv ⊢
  rw [hz] at hv ⊢
  rw [← hw]
  cases hb : wanted t o.guard with
  | false =>
    rw [hb] at hv
    simp only [cond_false, Option.some.injEq] at hv ⊢
    subst hv
    exact ⟨undef, rfl, rfl⟩
  | true =>
    rw [hb] at hv
    simp only [cond_true] at hv ⊢
    obtain ⟨r, hr, hv⟩ := Option.bind_eq_some_iff.1 hv
    simp only [Option.some.injEq] at hv
    subst hv
    exact ⟨r.1, rfl, by rw [← ho, hr]; rfl⟩
/-- One that does not act: its outcome is told by what it reads, and by the one object that it looks at. -/
theorem astep_still {o : AOper} (hz : o.fz = 0) (hk : o.op.pure = true ∨ o.op.peeks = true) {t t' : Tmps} {h h2 : Heap} (H : ∀ r ∈ o.reads, tget t r = tget t' r) (hg : o.op.peeks = true → wanted t o.guard = true → ∀ id, seenId t o.op = some id → h.get id = h2.get id)
    {p : Tmps × Heap} (hv : astep call o t h = some p) : p.2 = h ∧ ∃ v, p.1 = tput t o.dst v ∧ astep call o t' h2 = some (tput t' o.dst v, h2) := by
  have hw : wanted t o.guard = wanted t' o.guard := wanted_congr fun p hp => H _ (reads_guard hp)
  have ho : ∀ h, aop call t h o.op = aop call t' h o.op := fun h => aop_congr fun r hr => H r (reads_op hr)
  unfold astep at hv ⊢
  rw [hz] at hv ⊢
  rw [← hw]
  cases hb : wanted t o.guard with
  | false =>
    rw [hb] at hv
    simp only [cond_false, Option.some.injEq] at hv ⊢
    subst hv
    exact ⟨rfl, undef, rfl, rfl⟩
  | true =>
    rw [hb] at hv
    simp only [cond_true] at hv ⊢
    obtain ⟨r, hr, hv⟩ := Option.bind_eq_some_iff.1 hv
    simp only [Option.some.injEq] at hv
    subst hv
    rcases hk with hk | hk
    · obtain ⟨z, hz⟩ := aop_pure (call := call) (t := t) hk
      rw [hz] at hr
      obtain ⟨v, hzv, hrv⟩ := Option.map_eq_some_iff.1 hr
      subst hrv
      refine ⟨rfl, v, rfl, ?_⟩
      rw [← ho h2, hz h2, hzv]; rfl
    · obtain ⟨h1, h3⟩ := aop_look (call := call) (t := t) (h := h) (h' := h2) hk (hg hk hb)
      obtain ⟨_, h4⟩ := aop_look (call := call) (t := t) (h := h2) (h' := h2) hk (fun _ _ => rfl)
      have e1 : r.2 = h := h3 r.1 r.2 (by rw [hr])
      rw [hr] at h1
      simp only [Option.map_some] at h1
      obtain ⟨z, hz1, hz2⟩ := Option.map_eq_some_iff.1 h1.symm
      have e2 : z.2 = h2 := h4 z.1 z.2 (by rw [hz1])
      refine ⟨e1, r.1, rfl, ?_⟩
      rw [← ho h2, hz1]
      simp only [Option.bind_some, hz2, e2]
theorem dstep_put {o : AOper} (hz : o.fz = 0) {t : Tmps} {h : Heap} {na : Nat} {p : Tmps × Heap × Nat} (hv : dstep call o t h na = some p) : (∃ v, p.1 = tput t o.dst v) ∧ p.2.2 = na + (bif o.isAlloc then 1 else 0) := by
  cases ha : o.isAlloc with
  | true =>
    obtain ⟨cells, hc⟩ := alloc_op ha
    unfold dstep at hv
    rw [hc] at hv
    cases hv
    exact ⟨⟨_, rfl⟩, rfl⟩
  | false =>
    rw [dstep_other ha] at hv
    obtain ⟨r, hr, hv⟩ := Option.bind_eq_some_iff.1 hv
    cases hv
    obtain ⟨v, h1, _⟩ := astep_congr (t' := t) hz (fun _ _ => rfl) hr
    exact ⟨⟨v, h1⟩, rfl⟩
theorem dstep_heap {o : AOper} (hz : o.fz = 0) (ha : o.acts = false) {t : Tmps} {h : Heap} {na : Nat} {p : Tmps × Heap × Nat} (hv : dstep call o t h na = some p) : p.2.1 = h := by
  rcases kinds hz with hk | ⟨_, hk⟩ | ⟨hk, _, hk2⟩
  · obtain ⟨cells, hc⟩ := alloc_op hk
    unfold dstep at hv
    rw [hc] at hv
    cases hv
    rfl
  · rw [ha] at hk; cases hk
  · rw [dstep_other hk] at hv
    obtain ⟨r, hr, hv⟩ := Option.bind_eq_some_iff.1 hv
    cases hv
    exact (astep_still (t' := t) (h2 := h) hz (hk2.imp _root_.id And.left) (fun _ _ => rfl) (fun _ _ _ _ => rfl) hr).1
theorem tget_tput (t : Tmps) (d : Option Nat) (v : AV) (r : Nat) : tget (tput t d v) r = if d = some r then v else tget t r := by
  cases d with
  | none => simp [tput]
  | some d =>
    unfold tput tget
    simp only
    rw [Tr.get_set]
    by_cases e : r = d
    · subst e; simp
    · rw [if_neg e, if_neg (fun h => e (by simpa using h.symm))]
end
end Go.AM
