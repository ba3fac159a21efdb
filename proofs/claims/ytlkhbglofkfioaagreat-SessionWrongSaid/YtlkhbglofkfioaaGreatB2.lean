/- Maps. -/
import Derived.Test.YtlkhbglofkfioaaGreatB1
set_option linter.unusedVariables false
set_option linter.unusedSimpArgs false
namespace Go.AM
open Go
section
variable {P : Program} {T : Types} {o : Oper} {a : Act} {C : Ctx} {h : Heap} {t : Tmps} {n : Nat}

theorem VR.mp_inv {id : Nat} {u : Value} (h : VR C (.mp id) u) : ∃ l, u = .map (some l.blk) ∧ C.loc id = some l ∧ C.ver id = 0 := by
  cases h with
  | mp _ l hl h0 => exact ⟨l, rfl, hl, h0⟩
/-- Plain cells that are the same, and what they are. -/
theorem sameCells_ok {cs ds : List AV} {r : Bool} (hs : sameCells cs ds = some r) (hr : r = true) : cs = ds ∧ ∀ x ∈ cs, (∃ k i, x = .int k i) ∨ ∃ b, x = .bool b := by
  unfold sameCells at hs
  split at hs
  · cases hs
    simp only [Bool.and_eq_true, beq_iff_eq] at hr
    obtain ⟨rfl, rfl⟩ := hr
    refine ⟨rfl, fun x hx => ?_⟩
    simp only [List.mem_cons, List.not_mem_nil, or_false] at hx
    rcases hx with rfl | rfl
    · exact .inl ⟨_, _, rfl⟩
    · exact .inl ⟨_, _, rfl⟩
  · cases hs
theorem plain_one {x : AV} (hx : (∃ k i, x = .int k i) ∨ ∃ b, x = .bool b) {u v : Value} (hu : VR C x u) (hv : VR C x v) (k : Nat) : u = v ∧ Instr.sameBits k u v = true := by
  rcases hx with ⟨k', i, rfl⟩ | ⟨b, rfl⟩
  · rw [VR.int_inv hu, VR.int_inv hv]; exact ⟨rfl, by cases k <;> simp [Instr.sameBits]⟩
  · rw [VR.bool_inv hu, VR.bool_inv hv]; exact ⟨rfl, by cases k <;> simp [Instr.sameBits]⟩
theorem keyEq_int {x y : AV} {r : Bool} (h : keyEq false x y = some r) : ∃ k i j, x = .int k i ∧ y = .int k j ∧ r = (i == j) := by
  cases x with
  | int k i =>
    cases y with
    | int k' j =>
      simp only [keyEq] at h
      split at h
      · rename_i e; subst e; cases h; exact ⟨k, i, j, rfl, rfl, rfl⟩
      · cases h
    | _ => simp [keyEq] at h
  | _ => simp [keyEq] at h
theorem keyEq_agg {x y : AV} {r : Bool} (h : keyEq true x y = some r) : ∃ cs ds, x = .agg cs ∧ y = .agg ds ∧ sameCells cs ds = some r := by
  cases x with
  | agg cs =>
    cases y with
    | agg ds => exact ⟨cs, ds, rfl, rfl, h⟩
    | _ => simp [keyEq] at h
  | _ => simp [keyEq] at h
/-- Keys that are the same are the same values. -/
theorem key_bits {agg : Bool} {x y : AV} (hk : keyEq agg x y = some true) {u v : Value} (hu : VR C x u) (hv : VR C y v) : Instr.sameBits 10000 v u = true := by
  cases agg with
  | false =>
    obtain ⟨k, i, j, rfl, rfl, hr⟩ := keyEq_int hk
    have : i = j := by simpa using hr.symm
    subst this
    exact (plain_one (.inl ⟨_, _, rfl⟩) hv hu _).2
  | true =>
    obtain ⟨cs, ds, rfl, rfl, hk⟩ := keyEq_agg hk
    obtain ⟨h1, h2⟩ := sameCells_ok hk rfl
    subst h1
    obtain ⟨us, hus, hs1, hr1⟩ := VR.agg_inv hu
    obtain ⟨vs, hvs, hs2, hr2⟩ := VR.agg_inv hv
    subst hus; subst hvs
    simp only [Instr.sameBits, Bool.and_eq_true, beq_iff_eq]
    refine ⟨by omega, List.all_eq_true.2 fun p hp => ?_⟩
    obtain ⟨i, hi, hp'⟩ := List.getElem_of_mem hp
    have hi2 : i < vs.size ∧ i < us.size := by
      have : i < min vs.size us.size := by simpa using hi
      omega
    have hp2 : p = (vs[i], us[i]) := by rw [← hp']; simp
    rw [hp2]
    have hic : i < cs.length := by omega
    exact (plain_one (h2 _ (List.getElem_mem hic)) (hr2 i _ _ (List.getElem?_eq_getElem hic) (Array.getElem?_eq_getElem hi2.1)) (hr1 i _ _ (List.getElem?_eq_getElem hic) (Array.getElem?_eq_getElem hi2.2)) _).2
/-- What type a key has. -/
def KeyTy (P : Program) (agg : Bool) (kt : TypeId) : Prop := match agg with
  | false => ∃ k, P.underlying kt = some (.int k)
  | true => (∃ fs, P.underlying kt = some (.struct fs)) ∧ EqFact P kt
theorem keyOk_eq {agg : Bool} {x : AV} (ho : keyOk agg x = true) : keyEq agg x x = some true := by
  unfold keyOk at ho
  split at ho
  · assumption
  · cases ho
theorem checkKey_ok {agg b : Bool} {kt : TypeId} (hk : KeyTy P agg kt) {x : AV} (ho : keyOk agg x = true) {u : Value} (hu : VR C x u) (w : World) : (Instr.checkKey b 10000 kt u).run P w = .ok () w := by
  have hq := keyOk_eq ho
  cases agg with
  | false =>
    obtain ⟨k', i, j, rfl, _, _⟩ := keyEq_int hq
    obtain ⟨k, hk⟩ := hk
    rw [VR.int_inv hu]
    have key : ∀ n, (Instr.checkKey b (n + 1) kt (.int k' i)).run P w = .ok () w := fun n => by simp [Instr.checkKey, run_underlying hk]
    exact key 9999
  | true =>
    obtain ⟨cs, ds, rfl, e, hq⟩ := keyEq_agg hq
    cases e
    obtain ⟨us, rfl, hs, hr⟩ := VR.agg_inv hu
    obtain ⟨_, _, h1, h2⟩ := hk.2 C cs cs us us true hq (.agg cs us hs hr) (.agg cs us hs hr)
    cases b
    · exact h2 w
    · exact h1 w
/-- The model's search in a map goes as told. -/
def Found (C : Ctx) (es : List (AV × AV)) (ms : List MapEntry) : Prop := ms.length = es.length ∧ ∀ (i : Nat) (p : AV × AV) (m : MapEntry), es[i]? = some p → ms[i]? = some m → VR C p.1 m.key ∧ VR C p.2 m.val
theorem Found.tail {es : List (AV × AV)} {p : AV × AV} {m : MapEntry} {ms : List MapEntry} (h : Found C (p :: es) (m :: ms)) : Found C es ms :=
  ⟨by have := h.1; simp at this; exact this, fun i q k hq hk => h.2 (i + 1) q k (by simpa using hq) (by simpa using hk)⟩
/-- The first place where a key is. -/
def At (agg : Bool) (x : AV) (es : List (AV × AV)) (j : Nat) : Prop := (∃ p : AV × AV, es[j]? = some p ∧ keyEq agg x p.1 = some true) ∧ ∀ (i : Nat) (p' : AV × AV), i < j → es[i]? = some p' → keyEq agg x p'.1 = some false
theorem At.unique {agg : Bool} {x : AV} {es : List (AV × AV)} {i j : Nat} (h : At agg x es i) (k : At agg x es j) : i = j := by
  obtain ⟨⟨p, hp, hpk⟩, hf⟩ := h
  obtain ⟨⟨q, hq, hqk⟩, hg⟩ := k
  rcases Nat.lt_trichotomy i j with h1 | h1 | h1
  · rw [hg i p h1 hp] at hpk; cases hpk
  · exact h1
  · rw [hf j q h1 hq] at hqk; cases hqk
theorem At.zero {agg : Bool} {x : AV} {es : List (AV × AV)} {p : AV × AV} (h : keyEq agg x p.1 = some true) : At agg x (p :: es) 0 := ⟨⟨p, rfl, h⟩, fun i p' hi => by omega⟩
theorem At.succ {agg : Bool} {x : AV} {es : List (AV × AV)} {p : AV × AV} {j : Nat} (h : keyEq agg x p.1 = some false) (k : At agg x es j) : At agg x (p :: es) (j + 1) := by
  obtain ⟨⟨q, hq, hqk⟩, hf⟩ := k
  refine ⟨⟨q, by simpa using hq, hqk⟩, fun i p' hi hp => ?_⟩
  cases i with
  | zero => simp at hp; subst hp; exact h
  | succ i => exact hf i p' (by omega) (by simpa using hp)
/-- What a search yields: nothing, or a place where the key is. -/
def Yields (C : Ctx) (agg : Bool) (x : AV) (es : List (AV × AV)) (ms : List MapEntry) (i : Nat) (r : Option AV) (q : Option (Nat × Value)) : Prop := match r with
  | none => q = none
  | some v => ∃ j m p, q = some (i + j, m.val) ∧ ms[j]? = some m ∧ es[j]? = some p ∧ p.2 = v ∧ VR C v m.val ∧ At agg x es j
theorem Yields.succ {agg : Bool} {x : AV} {es : List (AV × AV)} {ms : List MapEntry} {i : Nat} {r : Option AV} {q : Option (Nat × Value)} {p : AV × AV} {m : MapEntry} (hk : keyEq agg x p.1 = some false) (h : Yields C agg x es ms (i + 1) r q) : Yields C agg x (p :: es) (m :: ms) i r q := by
  cases r with
  | none => exact h
  | some v =>
    obtain ⟨j, m', p', e1, e2, e3, e4, e5, e6⟩ := h
    exact ⟨j + 1, m', p', by rw [e1]; congr 2; omega, by simpa using e2, by simpa using e3, e4, e5, e6.succ hk⟩
theorem findNow_ok {k : IntKind} {x : AV} {u : Value} (hu : VR C x u) : ∀ {es : List (AV × AV)} {ms : List MapEntry} {r : Option AV} (i : Nat), Found C es ms → lookup false x es = some r → ∃ q, Instr.findNow (.int k) u ms i = some q ∧ Yields C false x es ms i r q
  | [], [], r, i, H, hl => by
    simp only [lookup, Option.some.injEq] at hl
    subst hl
    exact ⟨none, rfl, rfl⟩
  | (k', v) :: es, m :: ms, r, i, H, hl => by
    obtain ⟨hk1, hk2⟩ := H.2 0 (k', v) m rfl rfl
    simp only [lookup] at hl
    split at hl
    · rename_i hq
      cases hl
      have hq0 := hq
      obtain ⟨kk, a1, a2, rfl, rfl, hr⟩ := keyEq_int hq
      have hm : m.key = .int kk a2 := VR.int_inv hk1
      refine ⟨some (i, m.val), ?_, 0, m, _, rfl, rfl, rfl, rfl, hk2, At.zero hq0⟩
      simp [Instr.findNow, VR.int_inv hu, hm, Instr.sameNow, ← hr]
    · rename_i hq
      have hq0 := hq
      obtain ⟨q, h1, h2⟩ := findNow_ok (k := k) hu (i + 1) H.tail hl
      obtain ⟨kk, a1, a2, rfl, rfl, hr⟩ := keyEq_int hq
      have hm : m.key = .int kk a2 := VR.int_inv hk1
      refine ⟨q, ?_, h2.succ hq0⟩
      simp only [Instr.findNow, hm]
      rw [VR.int_inv hu] at h1 ⊢
      simp [Instr.sameNow, ← hr, h1]
    · cases hl
  | [], _ :: _, r, i, H, hl => by have := H.1; simp at this
  | _ :: _, [], r, i, H, hl => by have := H.1; simp at this
theorem findAsking_ok {kt : TypeId} (hE : EqFact P kt) {x : AV} {u : Value} (hu : VR C x u) (w : World) : ∀ {es : List (AV × AV)} {ms : List MapEntry} {r : Option AV} (i : Nat), Found C es ms → lookup true x es = some r → ∃ q, (Instr.findAsking kt u ms i).run P w = .ok q w ∧ Yields C true x es ms i r q
  | [], [], r, i, H, hl => by
    simp only [lookup, Option.some.injEq] at hl
    subst hl
    exact ⟨none, rfl, rfl⟩
  | (k', v) :: es, m :: ms, r, i, H, hl => by
    obtain ⟨hk1, hk2⟩ := H.2 0 (k', v) m rfl rfl
    simp only [lookup] at hl
    split at hl
    · rename_i hq
      cases hl
      have hq0 := hq
      obtain ⟨cs, ds, rfl, rfl, hr⟩ := keyEq_agg hq
      obtain ⟨xs, hxs, _⟩ := VR.agg_inv hu
      obtain ⟨zs, hzs, _⟩ := VR.agg_inv hk1
      obtain ⟨h1, _⟩ := hE C cs ds xs zs true hr (hxs ▸ hu) (hzs ▸ hk1)
      refine ⟨some (i, m.val), ?_, 0, m, _, rfl, rfl, rfl, rfl, hk2, At.zero hq0⟩
      simp [Instr.findAsking, hxs, hzs, h1]
    · rename_i hq
      have hq0 := hq
      obtain ⟨q, h1, h2⟩ := findAsking_ok hE hu w (i + 1) H.tail hl
      obtain ⟨cs, ds, rfl, rfl, hr⟩ := keyEq_agg hq
      obtain ⟨xs, hxs, _⟩ := VR.agg_inv hu
      obtain ⟨zs, hzs, _⟩ := VR.agg_inv hk1
      obtain ⟨h3, _⟩ := hE C cs ds xs zs false hr (hxs ▸ hu) (hzs ▸ hk1)
      refine ⟨q, ?_, h2.succ hq0⟩
      rw [hxs] at h1 ⊢
      simp [Instr.findAsking, hzs, h3, h1]
    · cases hl
  | [], _ :: _, r, i, H, hl => by have := H.1; simp at this
  | _ :: _, [], r, i, H, hl => by have := H.1; simp at this
theorem findKey_ok {agg : Bool} {kt : TypeId} (hk : KeyTy P agg kt) {x : AV} {u : Value} (hu : VR C x u) (ho : keyOk agg x = true) (w : World) {es : List (AV × AV)} {ms : List MapEntry} {r : Option AV} (H : Found C es ms) (hl : lookup agg x es = some r) : ∃ q, (Instr.findKey kt u ms).run P w = .ok q w ∧ Yields C agg x es ms 0 r q := by
  cases agg with
  | false =>
    obtain ⟨k, hk⟩ := hk
    obtain ⟨q, h1, h2⟩ := findNow_ok (k := k) hu 0 H hl
    exact ⟨q, by simp [Instr.findKey, run_underlying hk, h1], h2⟩
  | true =>
    obtain ⟨⟨fs, hfs⟩, hE⟩ := hk
    obtain ⟨q, h1, h2⟩ := findAsking_ok hE hu w 0 H hl
    refine ⟨q, ?_, h2⟩
    obtain ⟨cs, ds, rfl, _, _⟩ := keyEq_agg (keyOk_eq ho)
    obtain ⟨xs, hxs, _⟩ := VR.agg_inv hu
    subst hxs
    cases ms with
    | nil =>
      have : Instr.findNow (.struct fs) (.agg xs) [] 0 = some none := rfl
      simp only [Instr.findKey, Sem.run_bind, run_underlying hfs, Result.andThen_ok, this]
      exact h1
    | cons m ms =>
      have : Instr.findNow (.struct fs) (.agg xs) (m :: ms) 0 = none := rfl
      simp only [Instr.findKey, Sem.run_bind, run_underlying hfs, Result.andThen_ok, this]
      exact h1
theorem Sim.map (S : Sim C h) {id v st : Nat} {es : List (AV × AV)} (hg : h.get id = some ⟨.map es, v, st⟩) : v = 0 ∧ ∃ l ms clock, C.loc id = some l ∧ C.own l.blk ∧ l.base = 0 ∧ C.w.heap[l.blk]? = some (.map ms clock) ∧ Found C es ms.toList := by
  have h1 := S.obj id
  rw [hg] at h1
  obtain ⟨h0, l, h2, h3, h4, ms, clock, h5, h6, h7⟩ := h1
  exact ⟨h0, l, ms, clock, h2, h3, h4, h5, by simpa using h6, fun i p m hp hm => h7 i p m hp (by simpa using hm)⟩
theorem run_getObj {b : Nat} {ms : Array MapEntry} {clock : Nat} {w : World} (hb : w.heap[b]? = some (.map ms clock)) : (getObj b).run P w = .ok (.map ms clock) w := by
  simp [getObj, Sem.run, hb]
theorem op_lkup {ty kt e : TypeId} {ti te : TI} {agg ok : Bool} {m k : Operand} {m' k' : AOpd} (F : Facts P T) (hop : o.op = .lookup ty m k ok) (ht : T ty = some ti) (hk : ti.kind = .map kt e) (hkt : KeyTy P agg kt) (hte : T e = some te) (hm : trOpd m = some m') (hkk : trOpd k = some k') (S : Sim C h) (hT : TR C t a n)
    {id v st : Nat} {es : List (AV × AV)} (he : ev t m' = .mp id) (hg : h.get id = some ⟨.map es, v, st⟩) {r : Option AV} (hl : lookupOk agg (ev t k') es = some r) :
    OpGood P o a C h (match r with | some v => bif ok then .tup [v, .bool true] else v | none => bif ok then .tup [te.zero, .bool false] else te.zero) := by
  have hmv := ev_ok hT hm
  have hkv := ev_ok hT hkk
  rw [he] at hmv
  obtain ⟨l', hu, hl', _⟩ := VR.mp_inv hmv
  obtain ⟨_, l, ms, clock, hloc, how, hb, hheap, H⟩ := S.map hg
  rw [hl'] at hloc
  cases hloc
  have hko : keyOk agg (ev t k') = true := by
    unfold lookupOk at hl
    cases hq : keyOk agg (ev t k') with
    | true => rfl
    | false => rw [hq] at hl; cases hl
  have hl2 : lookup agg (ev t k') es = some r := by unfold lookupOk at hl; rw [hko] at hl; exact hl
  obtain ⟨d, hd, hdb⟩ := F.und ht
  rw [hk] at hdb
  have hdm := (desc_map hdb).1
  subst hdm
  obtain ⟨q, hq, hy⟩ := findKey_ok hkt hkv hko C.w H hl2
  have hck := fun b => checkKey_ok (P := P) (b := b) hkt hko hkv C.w
  obtain ⟨zv, hzr, hzv⟩ := F.zero hte
  have tup2 : ∀ {x : AV} {u : Value} {b : Bool}, VR C x u → VR C (.tup [x, .bool b]) (.tuple #[u, .bool b]) := fun {x u b} hx => .tup _ _ rfl fun i y z hy hz => by
    match i with
    | 0 => simp at hy hz; subst hy; subst hz; exact hx
    | 1 => simp at hy hz; subst hy; subst hz; exact .bool _
    | i + 2 => simp at hy
  cases r with
  | none =>
    have : q = none := hy
    subst this
    cases ok with
    | true =>
      refine OpGood.same (u := .tuple #[zv, .bool false]) ?_ S (tup2 (hzv C))
      simp [execOp, hop, hu, Instr.lookup, underlying, hd, run_getObj hheap, hck, hq, hzr]
    | false =>
      refine OpGood.same (u := zv) ?_ S (hzv C)
      simp [execOp, hop, hu, Instr.lookup, underlying, hd, run_getObj hheap, hck, hq, hzr]
  | some v =>
    obtain ⟨j, mm, p, rfl, _, _, _, hvr, _⟩ := hy
    cases ok with
    | true =>
      refine OpGood.same (u := .tuple #[mm.val, .bool true]) ?_ S (tup2 hvr)
      simp [execOp, hop, hu, Instr.lookup, underlying, hd, run_getObj hheap, hck, hq]
    | false =>
      refine OpGood.same (u := mm.val) ?_ S hvr
      simp [execOp, hop, hu, Instr.lookup, underlying, hd, run_getObj hheap, hck, hq]
end
end Go.AM
