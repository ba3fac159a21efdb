/- Regions that draw their order: the proof. -/
import Derived.Test.YtlkhbglofkfioaaGreatB9
set_option linter.unusedVariables false
set_option linter.unusedSimpArgs false
namespace Go.AM
open Go
theorem seenAt_other {o : AOper} (ha : o.isAlloc = false) {t : Tmps} {h : Heap} {na : Nat} : seenAt t h na o.op = (match seenId t o.op with | some id => (match stamp h id with | some st => some (some (id, st)) | none => none) | none => some none) := by
  obtain ⟨dst, op, g, fz⟩ := o
  cases op <;> first | rfl | cases ha
theorem some_alloc {α : Type} {x : Option α} {f : α → Option AOp} {cells : List AV} (hf : ∀ a, x = some a → f a ≠ some (.alloc cells)) : x.bind f ≠ some (.alloc cells) := by
  intro h
  obtain ⟨a, h1, h2⟩ := Option.bind_eq_some_iff.1 h
  exact hf a h1 h2
theorem trBuiltin_alloc {T : Types} {an : Ann} {d : Option Nat} {b : Builtin} {args : List Operand} {ts : List TypeId} {cells : List AV} : trBuiltin T an d b args ts ≠ some (.alloc cells) := by
  unfold trBuiltin
  split <;> (try (intro h; cases h; done))
  all_goals (repeat' (first | (refine some_alloc fun _ _ => ?_) | split | (intro h; cases h; done)))
theorem trOp_alloc {T : Types} {an : Ann} {d : Option Nat} {op : Op} {cells : List AV} (h : trOp T an d op = some (.alloc cells)) : ∃ e te, op = .alloc e ∧ T e = some te ∧ cells = te.zero.cells := by
  by_cases ha : ∃ e, op = .alloc e
  · obtain ⟨e, rfl⟩ := ha
    obtain ⟨te, hte, h⟩ := Option.bind_eq_some_iff.1 h
    cases h
    exact ⟨e, te, rfl, hte, rfl⟩
  · exfalso
    revert h
    show trOp T an d op ≠ some (.alloc cells)
    unfold trOp
    split
    case h_8 => exact absurd ⟨_, rfl⟩ ha
    all_goals (repeat' (first | (refine some_alloc fun _ _ => ?_) | exact trBuiltin_alloc | (intro h; cases h; done) | (intro h; obtain ⟨_, _, h⟩ := Option.map_eq_some_iff.1 h; cases h; done) | split))
theorem steady_at {fin : List Heap} {id s lo hi m : Nat} (hs : steady fin id s lo hi = true) (h1 : lo ≤ m) (h2 : m ≤ hi) {hp : Heap} (hf : fin[m]? = some hp) : stamp hp id = some s := by
  unfold steady at hs
  rw [List.all_eq_true] at hs
  have hmem : hp ∈ (fin.drop lo).take (hi - lo + 1) := by
    refine List.mem_iff_getElem?.2 ⟨m - lo, ?_⟩
    rw [List.getElem?_take, if_pos (by omega), List.getElem?_drop, show lo + (m - lo) = m by omega, hf]
  have := hs hp hmem
  cases hst : stamp hp id with
  | none => rw [hst] at this; cases this
  | some s' => rw [hst] at this; rw [Nat.eq_of_beq_eq_true this]
theorem pres_dir {ops : Array Oper} {i : Nat} {o : Oper} (hi : ops[i]? = some o) (j : Nat) : j ∈ (presOf ops.toList []).getD i [] ↔ j ∈ dirs o ∨ ∃ k ∈ dirs o, k < i ∧ j ∈ (presOf ops.toList []).getD k [] := by
  have := presOf_at ops.toList [] i o (by simpa using hi) j
  simpa using this
/-- A region that draws, and its run in the text's order. -/
structure Setup (P : Program) (T : Types) (an : Ann) (n : Nat) (call : CallF) (ops : Array Oper) (l : List AOper) (C0 : Ctx) (h : Heap) (t t' : Tmps) (h' : Heap) (st : Nat → Tmps × Heap × Nat) (fin : List Heap) : Prop where
  F : Facts P T
  CG : CallGood P call
  CL : CallLater call
  tr : trOpers T an n ops ops.toList = some l
  says : DregSays l (presOf ops.toList [])
  up : upward ops.toList = true
  S0 : Sim C0 h
  st0 : st 0 = (t, allocsOf l h, h.next)
  step : ∀ k o, l[k]? = some o → dstep call o (st k).1 (st k).2.1 (st k).2.2 = some (st (k + 1))
  last1 : (st l.length).1 = t'
  last2 : (st l.length).2.1 = h'
  fin0 : fin[0]? = some (allocsOf l h)
  finA : ∀ k o, l[k]? = some o → o.acts = true → fin[1 + actsN l k]? = some (st (k + 1)).2.1
  look : ∀ k o, l[k]? = some o → o.look = true → wanted (st k).1 o.guard = true → ∃ s, seenAt (st k).1 (st k).2.1 (st k).2.2 o.op = some s ∧ ∀ x, s = some x →
    steady fin x.1 x.2 ((l.zipIdx.filter fun (q : AOper × Nat) => q.1.acts && ((presOf ops.toList []).getD k []).contains q.2).length) ((l.filter AOper.acts).length - (l.zipIdx.filter fun (q : AOper × Nat) => q.1.acts && ((presOf ops.toList []).getD q.2 []).contains k).length) = true
section
variable {P : Program} {T : Types} {an : Ann} {n : Nat} {call : CallF} {ops : Array Oper} {l : List AOper} {C0 : Ctx} {h : Heap} {t t' : Tmps} {h' : Heap} {st : Nat → Tmps × Heap × Nat} {fin : List Heap}
namespace Setup
variable (M : Setup P T an n call ops l C0 h t t' h' st fin)
include M
theorem len : l.length = ops.size := by have := (trOpers_ok M.tr).1; simpa using this
theorem oper {i : Nat} {o' : AOper} (hi : l[i]? = some o') : ∃ o, ops[i]? = some o ∧ OperTr T an n ops o o' := by
  have hlt : i < ops.size := by rw [← M.len]; exact lt_of_get hi
  exact ⟨ops[i], Array.getElem?_eq_getElem hlt, (trOpers_ok M.tr).2 i _ _ (by simp [hlt]) hi⟩
theorem fz {i : Nat} {o' : AOper} (hi : l[i]? = some o') : o'.fz = 0 := by obtain ⟨o, _, h⟩ := M.oper hi; exact h.fz
theorem heap_at : ∀ {k : Nat}, k ≤ l.length → fin[actsN l k]? = some (st k).2.1 := by
  intro k
  induction k with
  | zero => intro _; rw [actsN_zero, M.fin0, M.st0]
  | succ k ih =>
    intro hk
    have hg := List.getElem?_eq_getElem (show k < l.length by omega)
    have h1 := actsN_succ hg
    cases ha : (l[k]'(by omega)).acts with
    | true =>
      rw [ha] at h1
      simp only [cond_true] at h1
      rw [h1, Nat.add_comm]
      exact M.finA k _ hg ha
    | false =>
      rw [ha] at h1
      simp only [cond_false] at h1
      rw [h1, Nat.add_zero, ih (by omega), dstep_heap (M.fz hg) ha (M.step k _ hg)]
theorem na_at : ∀ {k : Nat}, k ≤ l.length → (st k).2.2 = h.next + allocN l k := by
  intro k
  induction k with
  | zero => intro _; rw [allocN_zero, M.st0]; rfl
  | succ k ih =>
    intro hk
    have hg := List.getElem?_eq_getElem (show k < l.length by omega)
    rw [(dstep_put (M.fz hg) (M.step k _ hg)).2, ih (by omega), allocN_succ hg]
    omega
theorem later_step {k : Nat} {o : AOper} (hk : l[k]? = some o) (hf : Fresh (st k).2.1) : Later (st k).2.1 (st (k + 1)).2.1 := by
  have hs := M.step k o hk
  rcases kinds (M.fz hk) with ha | ⟨ha, _⟩ | ⟨ha, hb, _⟩
  · rw [dstep_heap (M.fz hk) (alloc_not_acts (M.fz hk) ha) hs]; exact Later.refl hf
  · rw [dstep_other ha] at hs
    obtain ⟨p, hp, hs⟩ := Option.bind_eq_some_iff.1 hs
    cases hq : st (k + 1) with
    | mk x y =>
      rw [hq] at hs
      cases hs
      exact astep_later M.CL (M.fz hk) hp hf
  · rw [dstep_heap (M.fz hk) hb hs]; exact Later.refl hf
theorem fresh : ∀ {k : Nat}, k ≤ l.length → Fresh (st k).2.1 := by
  intro k
  induction k with
  | zero =>
    intro _
    rw [M.st0]
    exact (allocsOf_ok l C0 h M.S0).1.fresh
  | succ k ih => intro hk; exact (M.later_step (List.getElem?_eq_getElem (show k < l.length by omega)) (ih (by omega))).fresh
theorem later {j : Nat} : ∀ {k : Nat}, j ≤ k → k ≤ l.length → Later (st j).2.1 (st k).2.1 := by
  intro k
  induction k with
  | zero => intro hj hk; have : j = 0 := by omega
            subst this; exact Later.refl (M.fresh hk)
  | succ k ih =>
    intro hj hk
    by_cases e : j = k + 1
    · subst e; exact Later.refl (M.fresh hk)
    · exact (ih (by omega) (by omega)).trans (M.later_step (List.getElem?_eq_getElem (show k < l.length by omega)) (M.fresh (by omega)))
theorem tmps_stay {r j : Nat} : ∀ {k : Nat}, j ≤ k → k ≤ l.length → (∀ (i : Nat) (o : AOper), j ≤ i → i < k → l[i]? = some o → o.dst ≠ some r) → tget (st k).1 r = tget (st j).1 r := by
  intro k
  induction k with
  | zero => intro hj _ _; have : j = 0 := by omega
            subst this; rfl
  | succ k ih =>
    intro hj hk H
    by_cases e : j = k + 1
    · subst e; rfl
    · have hg := List.getElem?_eq_getElem (show k < l.length by omega)
      obtain ⟨⟨v, hv⟩, _⟩ := dstep_put (M.fz hg) (M.step k _ hg)
      rw [hv, tget_tput, if_neg (H k _ (by omega) (by omega) hg)]
      exact ih (by omega) (by omega) fun i o h1 h2 h3 => H i o h1 (by omega) h3
/-- What an operation writes is what stands there at the end. -/
theorem final {j r : Nat} {o : AOper} (hj : l[j]? = some o) (hd : o.dst = some r) {k : Nat} (hk : j < k) (hkl : k ≤ l.length) : tget (st k).1 r = tget t' r := by
  have uniq : ∀ (i : Nat) (q : AOper), j + 1 ≤ i → l[i]? = some q → q.dst ≠ some r := fun i q hi hq hq' => by
    have := M.says.once j o i q r hj hq hd hq'
    omega
  rw [← M.last1, M.tmps_stay (j := j + 1) hk hkl fun i q h1 _ h3 => uniq i q h1 h3, M.tmps_stay (j := j + 1) (k := l.length) (by have := lt_of_get hj; omega) (Nat.le_refl _) fun i q h1 _ h3 => uniq i q h1 h3]
/-- Two memories that bear the same stamp at an object have the same object. -/
theorem same_obj {x y : Nat} (hx : x ≤ l.length) (hy : y ≤ l.length) {id s : Nat} (h1 : stamp (st x).2.1 id = some s) (h2 : stamp (st y).2.1 id = some s) : (st x).2.1.get id = (st y).2.1.get id := by
  have key : ∀ {x y : Nat}, x ≤ y → y ≤ l.length → stamp (st x).2.1 id = some s → stamp (st y).2.1 id = some s → (st x).2.1.get id = (st y).2.1.get id := by
    intro x y hxy hy h1 h2
    unfold stamp at h1 h2
    cases hgx : (st x).2.1.get id with
    | none => rw [hgx] at h1; cases h1
    | some e =>
      rw [hgx] at h1
      cases h1
      obtain ⟨e', he', _, hq⟩ := (M.later hxy hy).obj id e hgx
      rw [he'] at h2
      have h3 : e'.st = e.st := by simpa using h2
      rw [he', hq h3]
  rcases Nat.le_total x y with h3 | h3
  · exact key h3 hy h1 h2
  · exact (key h3 hx h2 h1).symm
theorem pres_lt : ∀ {i : Nat} {o : Oper}, ops[i]? = some o → ∀ {j : Nat}, j ∈ (presOf ops.toList []).getD i [] → j < i := by
  intro i
  induction i using Nat.strongRecOn with
  | _ i ih =>
    intro o hi j hj
    rcases (pres_dir hi j).1 hj with h1 | ⟨k, h1, h2, h3⟩
    · exact upward_says M.up (by simpa using hi) h1
    · have hk : k < ops.size := by have := (Array.getElem?_eq_some_iff.1 hi).1; omega
      have := ih k h2 (Array.getElem?_eq_getElem hk) h3
      omega
end Setup
/-- How far such a region is. -/
structure DInv (ops : Array Oper) (l : List AOper) (n : Nat) (C0 : Ctx) (h : Heap) (t t' : Tmps) (fin : List Heap) (D : Array Bool) (a : Act) (w : World) : Prop where
  size : D.size = ops.size
  closed : ∀ i, D.getD i false = true → ∀ j ∈ (presOf ops.toList []).getD i [], D.getD j false = true
  ctx : ∃ (C : Ctx) (tD : Tmps) (c : Nat) (hD : Heap), C.w = w ∧ Trans C0 (C.setHeld C0.held) ∧ Sim C hD ∧ TR C tD a n ∧ fin[c]? = some hD ∧ c ≤ actsN l l.length ∧
    (∀ (j : Nat) (o : AOper), l[j]? = some o → o.acts = true → (D.getD j false = true ↔ actsN l j < c)) ∧
    (∀ r, (∀ (j : Nat) (o : AOper), l[j]? = some o → o.dst = some r → D.getD j false = true → tget tD r = tget t' r) ∧ ((∀ (j : Nat) (o : AOper), l[j]? = some o → o.dst = some r → D.getD j false = false) → tget tD r = tget t r)) ∧
    (∀ id, C.held id ↔ C0.held id ∨ ∃ k o, l[k]? = some o ∧ o.isAlloc = true ∧ D.getD k false = false ∧ id = h.next + allocN l k)
theorem getD_set {D : Array Bool} {i : Nat} (hi : i < D.size) (j : Nat) : (D.setIfInBounds i true).getD j false = true ↔ j = i ∨ D.getD j false = true := by
  rw [Array.getD_eq_getD_getElem?, Array.getD_eq_getD_getElem?]
  by_cases e : i = j
  · subst e
    rw [Array.getElem?_setIfInBounds_self_of_lt hi]; simp
  · rw [Array.getElem?_setIfInBounds_ne e]
    constructor
    · exact .inr
    · rintro (h | h)
      · exact absurd h.symm e
      · exact h
theorem getD_set_false {D : Array Bool} {i : Nat} (hi : i < D.size) (j : Nat) : (D.setIfInBounds i true).getD j false = false ↔ j ≠ i ∧ D.getD j false = false := by
  have := getD_set hi j
  cases h1 : (D.setIfInBounds i true).getD j false with
  | true =>
    rw [h1] at this
    simp only [Bool.true_eq_false, false_iff, not_and]
    rintro hne hf
    rcases this.1 rfl with h2 | h2
    · exact hne h2
    · rw [hf] at h2; cases h2
  | false =>
    rw [h1] at this
    simp only [true_iff]
    refine ⟨fun e => ?_, ?_⟩
    · have := this.2 (.inl e); cases this
    · cases h2 : D.getD j false with
      | true => have := this.2 (.inr h2); cases this
      | false => rfl
theorem DInv.done (M : Setup P T an n call ops l C0 h t t' h' st fin) {D : Array Bool} {a : Act} {w : World} (I : DInv ops l n C0 h t t' fin D a w) (hall : ∀ j, j < ops.size → D.getD j false = true) {Q : Exit → Act → World → Prop}
    (hQ : ∀ C' a', Trans C0 C' → Sim C' h' → TR C' t' a' n → Q .normal a' C'.w) : Q .normal a w := by
  obtain ⟨C, tD, c, hD, rfl, Tr, S, hT, hc, hcl, hca, htm, hhe⟩ := I.ctx
  have hlen := M.len
  have hcc : c = actsN l l.length := by
    rcases Nat.lt_or_ge c (actsN l l.length) with h1 | h1
    · obtain ⟨j, o, h2, h3, h4, h5⟩ := actsN_at (Nat.le_refl _) h1
      have := (hca j o h3 h4).1 (hall j (by omega))
      omega
    · omega
  have hh : hD = h' := by
    rw [hcc, M.heap_at (Nat.le_refl _), M.last2] at hc
    exact (Option.some.inj hc).symm
  subst hh
  have ht : ∀ r, tget tD r = tget t' r := by
    intro r
    by_cases hw : ∃ (j : Nat) (o : AOper), l[j]? = some o ∧ o.dst = some r
    · obtain ⟨j, o, hj, hd⟩ := hw
      exact (htm r).1 j o hj hd (hall j (by rw [← hlen]; exact lt_of_get hj))
    · have hno : ∀ (j : Nat) (o : AOper), l[j]? = some o → o.dst ≠ some r := fun j o hj hd => hw ⟨j, o, hj, hd⟩
      rw [(htm r).2 fun j o hj hd => absurd hd (hno j o hj), ← M.last1, M.tmps_stay (j := 0) (Nat.zero_le _) (Nat.le_refl _) fun i o _ _ hi => hno i o hi, M.st0]
  exact hQ (C.setHeld C0.held) a Tr (S.setHeld fun id hid => (hhe id).2 (.inl hid)) ((⟨hT.size, hT.defers, fun i => by rw [← ht]; exact hT.vr i⟩ : TR C t' a n).setHeld _)
theorem DInv.step (M : Setup P T an n call ops l C0 h t t' h' st fin) {D : Array Bool} {a : Act} {w : World} (I : DInv ops l n C0 h t t' fin D a w) {i : Nat} (hr : i ∈ Region.ready .any ops D) {Q : Exit → Act → World → Prop} {K : Act → World → Prop}
    (hK : ∀ a' w', DInv ops l n C0 h t t' fin (D.setIfInBounds i true) a' w' → K a' w') : wpOp P ops Q i K a w := by
  obtain ⟨hun, o, ho, hall⟩ := mem_ready.1 hr
  have hio : i < ops.size := (Array.getElem?_eq_some_iff.1 ho).1
  have hiD : i < D.size := by rw [I.size]; exact hio
  have hlen := M.len
  obtain ⟨o', hi⟩ : ∃ o', l[i]? = some o' := ⟨_, List.getElem?_eq_getElem (by omega)⟩
  obtain ⟨o2, ho2, HT⟩ := M.oper hi
  rw [ho] at ho2
  cases ho2
  have hunf : D.getD i false = false := by
    rw [Array.getD_eq_getD_getElem?, Array.getElem?_eq_getElem hiD] at hun ⊢
    exact hun
  -- what comes ahead is there; what comes behind is not
  have hdir : ∀ j ∈ dirs o, D.getD j false = true := by
    intro j hj
    unfold dirs at hj
    obtain ⟨e, he, rfl⟩ := List.mem_map.1 hj
    obtain ⟨h1, h2⟩ := List.mem_filter.1 he
    exact hall e (by simpa using h1) h2
  have hpre : ∀ j ∈ (presOf ops.toList []).getD i [], D.getD j false = true := by
    intro j hj
    rcases (pres_dir ho j).1 hj with h1 | ⟨k, h1, _, h3⟩
    · exact hdir j h1
    · exact I.closed k (hdir k h1) j h3
  have hpost : ∀ j, i ∈ (presOf ops.toList []).getD j [] → D.getD j false = false := by
    intro j hj
    cases h1 : D.getD j false with
    | false => rfl
    | true => have := I.closed j h1 i hj; rw [hunf] at this; cases this
  have hclosed' : ∀ k, (D.setIfInBounds i true).getD k false = true → ∀ j ∈ (presOf ops.toList []).getD k [], (D.setIfInBounds i true).getD j false = true := by
    intro k hk j hj
    rw [getD_set hiD] at hk ⊢
    rcases hk with rfl | hk
    · exact .inr (hpre j hj)
    · exact .inr (I.closed k hk j hj)
  obtain ⟨C, tD, c, hD, rfl, Tr, S, hT, hc, hcl, hca, htm, hhe⟩ := I.ctx
  -- the places that are read
  have hreads : ∀ r ∈ o'.reads, tget (st i).1 r = tget tD r := by
    intro r hr
    have hil := lt_of_get hi
    by_cases hw : ∃ (j : Nat) (q : AOper), l[j]? = some q ∧ q.dst = some r
    · obtain ⟨j, q, hj, hq⟩ := hw
      have uniq : ∀ (k : Nat) (q' : AOper), l[k]? = some q' → q'.dst = some r → k = j := fun k q' hk hq' => M.says.once k q' j q r hk hj hq' hq
      rcases M.says.reads i o' j q r hi hj hq hr with ⟨h1, h2⟩ | ⟨h1, h2⟩
      · rw [(htm r).1 j q hj hq (hpre j h2)]
        exact M.final hj hq h1 (by omega)
      · rw [(htm r).2 fun k q' hk hq' => by rw [uniq k q' hk hq']; exact hpost j h2]
        have := M.tmps_stay (r := r) (j := 0) (k := i) (Nat.zero_le _) (by omega) fun k q' _ hk hk2 hq' => by
          have := uniq k q' hk2 hq'
          omega
        rw [this, M.st0]
    · have hno : ∀ (j : Nat) (o : AOper), l[j]? = some o → o.dst ≠ some r := fun j o hj hd => hw ⟨j, o, hj, hd⟩
      rw [(htm r).2 fun j o hj hd => absurd hd (hno j o hj), M.tmps_stay (j := 0) (Nat.zero_le _) (by omega) fun i o _ _ hi => hno i o hi, M.st0]
  -- the places behind it
  have htm' : ∀ v, (st (i + 1)).1 = tput (st i).1 o'.dst v → ∀ r, (∀ (j : Nat) (q : AOper), l[j]? = some q → q.dst = some r → (D.setIfInBounds i true).getD j false = true → tget (tput tD o'.dst v) r = tget t' r) ∧ ((∀ (j : Nat) (q : AOper), l[j]? = some q → q.dst = some r → (D.setIfInBounds i true).getD j false = false) → tget (tput tD o'.dst v) r = tget t r) := by
    intro v hv r
    rw [tget_tput]
    by_cases hd : o'.dst = some r
    · rw [if_pos hd]
      have e : v = tget t' r := by
        rw [← M.final hi hd (k := i + 1) (by omega) (lt_of_get hi), hv, tget_tput, if_pos hd]
      refine ⟨fun _ _ _ _ _ => e, fun hh => ?_⟩
      have h1 := hh i o' hi hd
      rw [getD_set_false hiD] at h1
      exact absurd rfl h1.1
    · rw [if_neg hd]
      refine ⟨fun j q hj hq hD' => ?_, fun hh => (htm r).2 fun j q hj hq => ((getD_set_false hiD j).1 (hh j q hj hq)).2⟩
      rw [getD_set hiD] at hD'
      rcases hD' with rfl | hD'
      · rw [hi] at hj; cases hj; exact absurd hq hd
      · exact (htm r).1 j q hj hq hD'
  have hfz := M.fz hi
  have hstep := M.step i o' hi
  have hil := lt_of_get hi
  -- the looks' range
  have hrange : ∀ m, m ≤ actsN l l.length → (∀ (j : Nat) (q : AOper), l[j]? = some q → q.acts = true → j ∈ (presOf ops.toList []).getD i [] → actsN l j < m) → (∀ (j : Nat) (q : AOper), l[j]? = some q → q.acts = true → i ∈ (presOf ops.toList []).getD j [] → m ≤ actsN l j) →
      (l.zipIdx.filter fun (q : AOper × Nat) => q.1.acts && ((presOf ops.toList []).getD i []).contains q.2).length ≤ m ∧ m ≤ (l.filter AOper.acts).length - (l.zipIdx.filter fun (q : AOper × Nat) => q.1.acts && ((presOf ops.toList []).getD q.2 []).contains i).length := by
    intro m hm h1 h2
    have a1 := count_le (p := fun j => ((presOf ops.toList []).getD i []).contains j) (c := m) l 0 0 (fun j q hj hq hp => by
      have := h1 j q hj hq (by simpa using hp)
      omega) (Nat.zero_le _)
    have a2 := count_ge (p := fun j => ((presOf ops.toList []).getD j []).contains i) (c := m) l 0 0 (fun j q hj hq hp => by
      have := h2 j q hj hq (by simpa using hp)
      omega) (by omega)
    rw [acts_total]
    omega
  have hrc := hrange c hcl (fun j q hj hq hp => (hca j q hj hq).1 (hpre j hp)) (fun j q hj hq hp => by
    rcases Nat.lt_or_ge (actsN l j) c with h1 | h1
    · have := (hca j q hj hq).2 h1
      rw [hpost j hp] at this; cases this
    · exact h1)
  have hri := hrange (actsN l i) (actsN_mono (by omega) (Nat.le_refl _)) (fun j q hj hq hp => actsN_lt hj hq (M.pres_lt ho hp) (by omega)) (fun j q hj hq hp => by
    have hjo : j < ops.size := by rw [← hlen]; exact lt_of_get hj
    have := M.pres_lt (Array.getElem?_eq_getElem hjo) hp
    have := lt_of_get hj
    exact actsN_mono (by omega) (by omega))
  obtain ⟨kc, hkc, hkc2⟩ := actsN_place hcl
  have hDk : hD = (st kc).2.1 := by
    have := M.heap_at hkc
    rw [hkc2, hc] at this
    exact Option.some.inj this
  -- the invariant behind an operation that makes no variable
  have finish : ∀ (C' : Ctx) (a' : Act) (hD' : Heap) (v : AV) (c' : Nat), Trans C C' → Sim C' hD' → TR C' (tput tD o'.dst v) a' n → (st (i + 1)).1 = tput (st i).1 o'.dst v → o'.isAlloc = false → fin[c']? = some hD' → c' ≤ actsN l l.length →
      (∀ (j : Nat) (q : AOper), l[j]? = some q → q.acts = true → ((D.setIfInBounds i true).getD j false = true ↔ actsN l j < c')) → K a' C'.w := by
    intro C' a' hD' v c' T' S' hT' hv hna hc' hcl' hca'
    refine hK a' C'.w ⟨by simpa using I.size, hclosed', C', tput tD o'.dst v, c', hD', rfl, Tr.trans (T'.setHeld _), S', hT', hc', hcl', hca', htm' v hv, fun id => ?_⟩
    rw [T'.held, hhe id]
    constructor
    · rintro (h1 | ⟨k, q, h1, h2, h3, h4⟩)
      · exact .inl h1
      · refine .inr ⟨k, q, h1, h2, (getD_set_false hiD k).2 ⟨fun e => ?_, h3⟩, h4⟩
        subst e
        rw [hi] at h1; cases h1
        rw [hna] at h2; cases h2
    · rintro (h1 | ⟨k, q, h1, h2, h3, h4⟩)
      · exact .inl h1
      · exact .inr ⟨k, q, h1, h2, ((getD_set_false hiD k).1 h3).2, h4⟩
  have hcaStill : o'.acts = false → ∀ (j : Nat) (q : AOper), l[j]? = some q → q.acts = true → ((D.setIfInBounds i true).getD j false = true ↔ actsN l j < c) := by
    intro hna j q hj hq
    rw [getD_set hiD, ← hca j q hj hq]
    constructor
    · rintro (e | h1)
      · subst e; rw [hi] at hj; cases hj; rw [hna] at hq; cases hq
      · exact h1
    · exact .inr
  have viaStep : ∀ {v : AV} {hD' : Heap}, astep call o' tD hD = some (tput tD o'.dst v, hD') → (∀ C' a', Trans C C' → Sim C' hD' → TR C' (tput tD o'.dst v) a' n → K a' C'.w) → wpOp P ops Q i K a C.w := by
    intro v hD' hs hk
    have := astep_ok M.F M.CG HT S hT hs (K := K) (Q := Q) hk
    unfold wpOp
    simp only [ho]
    split
    · rename_i hw; rw [if_pos hw] at this; exact .inl this
    · rename_i hw; rw [if_neg hw] at this; exact this
  rcases kinds hfz with ha | ⟨ha, hact⟩ | ⟨ha, hact, hk⟩
  · -- a variable is made
    obtain ⟨cells, hcells⟩ := alloc_op ha
    have hnact := alloc_not_acts hfz ha
    have hna := M.na_at (k := i) (by omega)
    have hw := wanted_ok HT hT
    have hgw : wanted tD o'.guard = wanted (st i).1 o'.guard := (wanted_congr fun p hp => hreads _ (reads_guard hp)).symm
    have hput : (st (i + 1)).1 = tput (st i).1 o'.dst (bif wanted (st i).1 o'.guard then .ptr (h.next + allocN l i) 0 else undef) := by
      unfold dstep at hstep
      rw [hcells] at hstep
      simp only [Option.some.injEq] at hstep
      rw [← hstep, ← hna]
    let H' : Nat → Prop := fun id => C0.held id ∨ ∃ k q, l[k]? = some q ∧ q.isAlloc = true ∧ (D.setIfInBounds i true).getD k false = false ∧ id = h.next + allocN l k
    have hH' : ∀ id, H' id → C.held id := by
      intro id hid
      rw [hhe id]
      rcases hid with h1 | ⟨k, q, h1, h2, h3, h4⟩
      · exact .inl h1
      · exact .inr ⟨k, q, h1, h2, ((getD_set_false hiD k).1 h3).2, h4⟩
    have hnot : ¬ H' (h.next + allocN l i) := by
      rintro (h1 | ⟨k, q, h1, h2, h3, h4⟩)
      · exact (M.S0.held _ h1).2 (M.S0.fresh _ (Nat.le_add_right _ _))
      · have hki : k ≠ i := ((getD_set_false hiD k).1 h3).1
        have hkl := lt_of_get h1
        rcases Nat.lt_or_ge k i with h5 | h5
        · have := allocN_lt h1 h2 h5 (by omega); omega
        · have := allocN_lt hi ha (k := k) (by omega) (by omega); omega
    have finish' : ∀ (C' : Ctx) (a' : Act), C'.held = H' → Trans (C.setHeld C0.held) (C'.setHeld C0.held) → Sim C' hD → TR C' (tput tD o'.dst (bif wanted (st i).1 o'.guard then .ptr (h.next + allocN l i) 0 else undef)) a' n → K a' C'.w := by
      intro C' a' hh T' S' hT'
      refine hK a' C'.w ⟨by simpa using I.size, hclosed', C', _, c, hD, rfl, Tr.trans T', S', hT', hc, hcl, hcaStill hnact, htm' _ hput, fun id => ?_⟩
      rw [hh]
    obtain ⟨te, ti, hop, hti, rfl⟩ := trOp_alloc (by rw [← hcells]; exact HT.op)
    unfold wpOp
    simp only [ho]
    rw [hw, hgw]
    cases hwi : wanted (st i).1 o'.guard with
    | false =>
      simp only [Bool.false_eq_true, if_false]
      have hT2 := (hT.put (dst := o.dst) HT.lt (VR.undef C)).setHeld H'
      have := finish' (C.setHeld H') (a.put o.dst Go.undef) rfl (Trans.refl _) (S.setHeld hH') (by rw [hwi, HT.dst]; exact hT2)
      exact this
    | true =>
      simp only [if_true]
      left
      obtain ⟨zv, hrun, hzv⟩ := run_alloc (a := a) M.F hti hop C.w
      -- the variable stands in memory as it was told
      have hlook : o'.look = true := by unfold AOper.look; rw [hcells]
      obtain ⟨s, hs1, hs2⟩ := M.look i o' hi hlook hwi
      have hs3 : s = some (h.next + allocN l i, 0) := by
        rw [hcells] at hs1
        simp only [seenAt, Option.some.injEq] at hs1
        rw [← hs1, hna]
      have hst := steady_at (hs2 _ hs3) hrc.1 hrc.2 hc
      have h0 := (allocsOf_ok l C0 h M.S0).2.1 i o' _ hi hcells
      have hget : hD.get (h.next + allocN l i) = some ⟨.var ti.zero.cells, 0, 0⟩ := by
        have e0 : (st 0).2.1 = allocsOf l h := by rw [M.st0]
        rw [← h0, ← e0, hDk]
        refine M.same_obj hkc (Nat.zero_le _) (s := 0) (by rw [← hDk]; exact hst) ?_
        unfold stamp
        rw [e0, h0]
      have S1 := S.setHeld hH'
      have hloc : (C.setHeld H').loc (h.next + allocN l i) = none := (S.held _ ((hhe _).2 (.inr ⟨i, o', hi, ha, hunf, rfl⟩))).1
      obtain ⟨T2, S2, hv2⟩ := S1.landVar (h.next + allocN l i) ti.zero.cells 0 zv.cells _ hget hloc (VR.cells (hzv _)) (M.F.ty _ ti hti).zsc hnot
      unfold Oper.wp
      rw [hrun]
      refine finish' _ _ rfl (T2.setHeld C0.held) S2 ?_
      rw [hwi, HT.dst]
      exact ((hT.setHeld H').trans T2).put HT.lt hv2
  · -- one that acts
    have hci : c = actsN l i := by
      have h1 : c ≤ actsN l i := by
        rcases Nat.lt_or_ge (actsN l i) c with h1 | h1
        · have := (hca i o' hi hact).2 h1
          rw [hunf] at this; cases this
        · exact h1
      rcases Nat.lt_or_ge c (actsN l i) with h2 | h2
      · obtain ⟨j, q, h3, h4, h5, h6⟩ := actsN_at (by omega) h2
        have := (hca j q h4 h5).1 (hpre j (M.says.line i o' j q hi h4 hact h5 h3))
        omega
      · omega
    have hDi : hD = (st i).2.1 := by
      rw [hci, M.heap_at (by omega)] at hc
      exact (Option.some.inj hc).symm
    rw [dstep_other ha] at hstep
    obtain ⟨p, hp, hstep⟩ := Option.bind_eq_some_iff.1 hstep
    simp only [Option.some.injEq] at hstep
    obtain ⟨v, hv1, hv2⟩ := astep_congr hfz hreads hp
    have e1 : (st (i + 1)).1 = tput (st i).1 o'.dst v := by rw [← hstep]; exact hv1
    have e2 : (st (i + 1)).2.1 = p.2 := by rw [← hstep]
    refine viaStep (v := v) (hD' := p.2) (by rw [hDi]; exact hv2) fun C' a' T' S' hT' => finish C' a' p.2 v (c + 1) T' S' hT' e1 ha ?_ ?_ fun j q hj hq => ?_
    · rw [hci, Nat.add_comm, M.finA i o' hi hact, e2]
    · rw [hci]
      have := actsN_lt hi hact hil (Nat.le_refl _)
      omega
    · rw [getD_set hiD, hca j q hj hq]
      constructor
      · rintro (e | h1)
        · subst e; omega
        · omega
      · intro h1
        rcases Nat.lt_or_ge (actsN l j) c with h2 | h2
        · exact .inr h2
        · left
          have hjl := lt_of_get hj
          rcases Nat.lt_trichotomy j i with h3 | h3 | h3
          · have := actsN_lt hj hq h3 (by omega); omega
          · exact h3
          · have := actsN_lt hi hact h3 (by omega); omega
  · -- one that does not act
    rw [dstep_other ha] at hstep
    obtain ⟨p, hp, hstep⟩ := Option.bind_eq_some_iff.1 hstep
    simp only [Option.some.injEq] at hstep
    obtain ⟨_, v, hv1, hv2⟩ := astep_still (h2 := hD) hfz (hk.imp _root_.id And.left) hreads (fun hpk hwi id hid => by
      have hlook : o'.look = true := by
        rcases hk with h1 | h1
        · exfalso
          cases ho' : o'.op <;> rw [ho'] at h1 hpk <;> first | (cases h1; done) | (cases hpk; done) | (rename_i own _; cases own <;> cases hpk)
        · exact h1.2
      obtain ⟨s, hs1, hs2⟩ := M.look i o' hi hlook hwi
      have hse : seenAt (st i).1 (st i).2.1 (st i).2.2 o'.op = (match stamp (st i).2.1 id with | some x => some (some (id, x)) | none => none) := by
        rw [seenAt_other ha, hid]
      rw [hse] at hs1
      cases hst : stamp (st i).2.1 id with
      | none => rw [hst] at hs1; cases hs1
      | some x =>
        rw [hst] at hs1
        simp only [Option.some.injEq] at hs1
        have h4 := steady_at (hs2 _ hs1.symm) hrc.1 hrc.2 hc
        rw [hDk]
        exact M.same_obj (by omega) hkc hst (by rw [← hDk]; exact h4)) hp
    have e1 : (st (i + 1)).1 = tput (st i).1 o'.dst v := by rw [← hstep]; exact hv1
    exact viaStep hv2 fun C' a' T' S' hT' => finish C' a' hD v c T' S' hT' e1 ha hc hcl (hcaStill hact)
def unl (ops : Array Oper) (D : Array Bool) : Nat := ((List.range ops.size).filter fun j => !D.getD j false).length
theorem unl_set {ops : Array Oper} {D : Array Bool} {i : Nat} (hi : i < ops.size) (hD : D.size = ops.size) (hf : D.getD i false = false) : unl ops (D.setIfInBounds i true) < unl ops D := by
  unfold unl
  have e : ((List.range ops.size).filter fun j => !(D.setIfInBounds i true).getD j false) = ((List.range ops.size).filter fun j => !D.getD j false).filter fun j => j != i := by
    rw [List.filter_filter]
    apply List.filter_congr
    intro j _
    have h1 := getD_set (D := D) (i := i) (by omega) j
    by_cases e : j = i
    · subst e
      rw [h1.2 (.inl rfl)]; simp
    · have : (D.setIfInBounds i true).getD j false = D.getD j false := by
        rw [Bool.eq_iff_iff, h1]; simp [e]
      rw [this]; simp [e]
  rw [e]
  exact List.length_filter_lt_length_iff_exists.2 ⟨i, List.mem_filter.2 ⟨List.mem_range.2 hi, by rw [hf]; rfl⟩, by simp⟩
theorem all_listed (M : Setup P T an n call ops l C0 h t t' h' st fin) {D : Array Bool} (hD : D.size = ops.size) (hr : Region.ready .any ops D = []) : ∀ j, j < ops.size → D.getD j false = true := by
  intro j
  induction j using Nat.strongRecOn with
  | _ j ih =>
    intro hj
    cases h1 : D.getD j false with
    | true => rfl
    | false =>
      exfalso
      have : j ∈ Region.ready .any ops D := by
        refine mem_ready.2 ⟨?_, ops[j], Array.getElem?_eq_getElem hj, fun e he hb => ?_⟩
        · rw [Array.getD_eq_getD_getElem?, Array.getElem?_eq_getElem (by omega)] at h1 ⊢
          exact h1
        · have hd : e.on ∈ dirs ops[j] := by
            unfold dirs
            exact List.mem_map.2 ⟨e, List.mem_filter.2 ⟨by simpa using he, hb⟩, rfl⟩
          have := upward_says M.up (i := j) (o := ops[j]) (by simp [hj]) hd
          exact ih _ this (by omega)
      rw [hr] at this
      cases this
theorem DInv.all (M : Setup P T an n call ops l C0 h t t' h' st fin) {Q : Exit → Act → World → Prop} (hQ : ∀ C' a', Trans C0 C' → Sim C' h' → TR C' t' a' n → Q .normal a' C'.w) : ∀ (fuel : Nat) (D : Array Bool) (a : Act) (w : World), DInv ops l n C0 h t t' fin D a w → unl ops D ≤ fuel → wpAny P .any ops Q fuel D a w
  | 0, D, a, w, I, hf => by
    have h0 : ((List.range ops.size).filter fun j => !D.getD j false) = [] := List.eq_nil_of_length_eq_zero (by unfold unl at hf; omega)
    have hall : ∀ j, j < ops.size → D.getD j false = true := by
      intro j hj
      rw [List.filter_eq_nil_iff] at h0
      have := h0 j (List.mem_range.2 hj)
      simpa using this
    refine ⟨?_, I.done M hall hQ⟩
    rw [List.eq_nil_iff_forall_not_mem]
    intro i hi
    obtain ⟨hun, o, ho, _⟩ := mem_ready.1 hi
    have hio : i < ops.size := (Array.getElem?_eq_some_iff.1 ho).1
    have := hall i hio
    rw [Array.getD_eq_getD_getElem?, Array.getElem?_eq_getElem (by rw [I.size]; exact hio)] at hun this
    simp only [Option.getD_some] at hun this
    rw [hun] at this; cases this
  | fuel + 1, D, a, w, I, hf => by
    refine ⟨fun hr => I.done M (all_listed M I.size hr) hQ, fun i hi => I.step M hi fun a' w' I' => DInv.all M hQ fuel _ a' w' I' ?_⟩
    obtain ⟨hun, o, ho, _⟩ := mem_ready.1 hi
    have hio : i < ops.size := (Array.getElem?_eq_some_iff.1 ho).1
    have := unl_set (D := D) hio I.size (by
      rw [Array.getD_eq_getD_getElem?, Array.getElem?_eq_getElem (by rw [I.size]; exact hio)] at hun ⊢
      exact hun)
    omega
theorem dreg_ok (F : Facts P T) (hm : P.follows .mixedOrders = true) (CG : CallGood P call) (CL : CallLater call) : DregGood P T an n call := by
  intro id ops l looks C0 h t a t' h' Q htr S0 hT0 hv hQ
  obtain ⟨l2, hl, htr⟩ := bind2 htr
  simp only [if_true] at htr
  split at htr
  · rename_i hok
    simp only [Option.some.injEq, ACode.dreg.injEq] at htr
    obtain ⟨rfl, rfl⟩ := htr
    simp only [Bool.and_eq_true] at hok
    obtain ⟨st, fin, h0, hstep, hl1, hl2, hold, hact, _, hlk⟩ := dops_trace (call := call) (fun k => ((l2.zipIdx.filter fun (q : AOper × Nat) => q.1.acts && ((presOf ops.toList []).getD k []).contains q.2).length, (l2.filter AOper.acts).length - (l2.zipIdx.filter fun (q : AOper × Nat) => q.1.acts && ((presOf ops.toList []).getD q.2 []).contains k).length)) l2 0 t (allocsOf l2 h) h.next [allocsOf l2 h] [] hv
    have M : Setup P T an n call ops l2 C0 h t t' h' st fin := ⟨F, CG, CL, hl, dregOk_says hok.1, hok.2, S0, h0, hstep, hl1, hl2, by have := hold 0 (by simp); simpa using this, fun k o hk ha => by have := hact k o hk ha; simpa using this, fun k o hk hlo hw => by
      obtain ⟨s, h1, h2⟩ := hlk k o hk hlo hw
      refine ⟨s, h1, fun x hx => ?_⟩
      have := h2 x hx
      simpa using this⟩
    have hA := (allocsOf_ok l2 C0 h S0).1
    have hrep : ∀ j, (Array.replicate ops.size false).getD j false = false := by
      intro j
      rw [Array.getD_eq_getD_getElem?, Array.getElem?_replicate]
      split <;> rfl
    refine wp_region_any hm (DInv.all M hQ ops.size _ a _ ⟨by simp, fun i hi => (by rw [hrep] at hi; cases hi), ?_⟩ ?_)
    · refine ⟨(C0.setHeld fun id => C0.held id ∨ ∃ k o, l2[k]? = some o ∧ o.isAlloc = true ∧ id = h.next + allocN l2 k).at_ C0.w.drew, t, 0, allocsOf l2 h, rfl, ?_, hA.same (drew_same C0.w), (hT0.setHeld _).trans (Trans.same (drew_same C0.w)), M.fin0, Nat.zero_le _, fun j o hj ho => ?_, fun r => ⟨fun j o hj ho hD => ?_, fun _ => rfl⟩, fun id => ?_⟩
      · exact Trans.same (C := C0) (drew_same C0.w)
      · rw [hrep]; simp
      · rw [hrep] at hD; cases hD
      · show (C0.held id ∨ _) ↔ _
        constructor
        · rintro (h1 | ⟨k, o, h1, h2, h3⟩)
          · exact .inl h1
          · exact .inr ⟨k, o, h1, h2, hrep k, h3⟩
        · rintro (h1 | ⟨k, o, h1, h2, _, h3⟩)
          · exact .inl h1
          · exact .inr ⟨k, o, h1, h2, h3⟩
    · unfold unl
      have := List.length_filter_le (fun j => !(Array.replicate ops.size false).getD j false) (List.range ops.size)
      simpa using this
  · cases htr
end
end Go.AM
