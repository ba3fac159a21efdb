/- Appending, copying, clearing. -/
import Derived.Test.YtlkhbglofkfioaaGreatA8
import Derived.Laws.BytesArg
set_option linter.unusedVariables false
set_option linter.unusedSimpArgs false
namespace Go.AM
open Go
section
variable {P : Program} {T : Types} {o : Oper} {a : Act} {C : Ctx} {h : Heap} {t : Tmps} {n : Nat}

/-! ### what a slice's elements are, as cells -/
theorem flat_split {sz : Nat} : ∀ {els : List AV} {k : Nat} {x : AV}, sized sz els = true → (flat els)[k]? = some x → ∃ i j e, els[i]? = some e ∧ e.cells[j]? = some x ∧ k = i * sz + j ∧ j < sz
  | [], k, x, _, hk => by simp [flat] at hk
  | e0 :: els, k, x, hs, hk => by
    simp only [sized, List.all_cons, Bool.and_eq_true] at hs
    have h1 := Nat.eq_of_beq_eq_true hs.1.1
    simp only [flat, List.flatMap_cons] at hk
    by_cases hlt : k < e0.cells.length
    · rw [List.getElem?_append_left hlt] at hk
      exact ⟨0, k, e0, rfl, hk, by simp, by omega⟩
    · rw [List.getElem?_append_right (by omega)] at hk
      obtain ⟨i, j, e, ha, hb, hc, hd⟩ := flat_split (els := els) hs.2 hk
      exact ⟨i + 1, j, e, by simpa using ha, hb, by rw [Nat.add_mul]; omega, hd⟩
theorem flat_append (xs ys : List AV) : flat (xs ++ ys) = flat xs ++ flat ys := by simp [flat]
theorem RowOf.ofFlat' {sz base : Nat} {els : List AV} {row : Array Value} (hs : sized sz els = true) (h : ∀ (k : Nat) (x : AV) (v : Value), (flat els)[k]? = some x → row[base + k]? = some v → VR C x v) : RowOf C sz els row base := by
  intro i j e x v hi hj hv
  have hjl : j < sz := by rw [← (sized_at hs hi).1]; exact (List.getElem?_eq_some_iff.1 hj).1
  exact h (i * sz + j) x v (by rw [flat_get hs hi hjl]; exact hj) (by rw [← Nat.add_assoc]; exact hv)
theorem RowOf.flat {sz base : Nat} {els : List AV} {row : Array Value} (hs : sized sz els = true) (h : RowOf C sz els row base) (k : Nat) (x : AV) (v : Value) (hx : (AM.flat els)[k]? = some x) (hv : row[base + k]? = some v) : VR C x v := by
  obtain ⟨i, j, e, hi, hj, hk, _⟩ := flat_split hs hx
  exact h i j e x v hi hj (by rw [Nat.add_assoc, ← hk]; exact hv)
structure SrcOf (C : Ctx) (ys : List AV) (ad : Option Addr) (c : Nat) (news : List Value) : Prop where
  len : news.length = (flat ys).length
  vr : ∀ (k : Nat) (x : AV) (v : Value), (flat ys)[k]? = some x → news[k]? = some v → VR C x v
  none : ad = none → ys = [] ∧ c = 0
  cells : ∀ ad', ad = some ad' → ∀ (j : Nat) (v : Value), news[j]? = some v → C.w.cell? (ad'.add j) = some v
theorem news_of {cs : List AV} {b p : Nat} (hc : ∀ (k : Nat) (x : AV), cs[k]? = some x → ∃ v, C.w.cell? ⟨b, p + k, none⟩ = some v ∧ VR C x v) :
    ∃ news : List Value, news.length = cs.length ∧ (∀ (k : Nat) (x : AV) (v : Value), cs[k]? = some x → news[k]? = some v → VR C x v) ∧ ∀ (j : Nat) (v : Value), news[j]? = some v → C.w.cell? ((⟨b, p, none⟩ : Addr).add j) = some v := by
  refine ⟨(List.range cs.length).map fun j => (C.w.cell? ⟨b, p + j, none⟩).getD Go.undef, by simp, fun k x v hx hv => ?_, fun j v hv => ?_⟩
  · obtain ⟨u, h1, h2⟩ := hc k x hx
    have hk : k < cs.length := (List.getElem?_eq_some_iff.1 hx).1
    simp only [List.getElem?_map, List.getElem?_range hk, Option.map_some, Option.some.injEq, h1, Option.getD_some] at hv
    rw [← hv]; exact h2
  · have hj : j < cs.length := by simpa using (List.getElem?_eq_some_iff.1 hv).1
    obtain ⟨u, h1, _⟩ := hc j cs[j] (List.getElem?_eq_getElem hj)
    simp only [List.getElem?_map, List.getElem?_range hj, Option.map_some, Option.some.injEq, h1, Option.getD_some] at hv
    rw [add_none, h1, hv]
theorem src_of (S : Sim C h) {x : AV} {u : Value} (hx : VR C x u) {ys : List AV} (he : elsOf h x = some ys) {sz : Nat} (hs : sized sz ys = true) : ∃ ad c news, u = .slice ad ys.length c ∧ ys.length ≤ c ∧ SrcOf C ys ad c news := by
  unfold elsOf at he
  split at he
  · rename_i els tag
    cases he
    obtain ⟨ad, c, b, p, sz', hu, hn, ht, ha, hs', hc, hr⟩ := VR.sl_inv hx
    have hnone : ad = none → ys = [] ∧ c = 0 := by
      intro e
      cases tag with
      | nil => exact ⟨List.eq_nil_of_length_eq_zero ht.2.1, ht.2.2⟩
      | full => exact absurd e ht.1
      | non => exact absurd e ht
    cases hys : ys with
    | nil => subst hys; exact ⟨ad, c, [], hu, hn, rfl, fun k x v hx => by simp [flat] at hx, hnone, fun _ _ j v hv => by simp at hv⟩
    | cons y ys' =>
      obtain ⟨h1, h2, h3⟩ := ha (by rw [hys]; simp)
      obtain ⟨news, n1, n2, n3⟩ := news_of (C := C) (cs := flat ys) (b := b) (p := p) fun k x hk => by
        obtain ⟨i, j, e, hi, hj, hk', hjs⟩ := flat_split hs' hk
        obtain ⟨w, hw⟩ := Option.isSome_iff_exists.1 (hc i e j x hi hj)
        refine ⟨w, ?_, hr i e j x w hi hj hw⟩
        rw [hk', ← Nat.add_assoc]; exact hw
      rw [← hys]
      exact ⟨ad, c, news, hu, hn, n1, n2, hnone, fun ad' e j v hv => by rw [h1] at e; cases e; exact n3 j v hv⟩
  · rename_i id ver sz' off len
    simp only [Option.bind_eq_some_iff] at he
    obtain ⟨⟨sz2, els, ro, st⟩, hg, he⟩ := he
    cases hb : Nat.ble (off + len) els.length with
    | false => simp only [hb] at he; cases he
    | true =>
      simp only [hb, cond_true, Option.some.injEq] at he
      have hb := Nat.le_of_ble_eq_true hb
      obtain ⟨hver, h1, l, row, et, hl, hlz, _, _, hsd, hrow, hlen, hr⟩ := S.arrAt hg
      obtain ⟨ad, cap, hu, hcap, _, _, hh⟩ := VR.ob_inv hx
      obtain ⟨l', row', e', hl', hlz', had, hrow', hsz'⟩ := hh hver
      rw [hl] at hl'
      cases hl'
      have hyl : ys.length = len := by rw [← he]; simp; omega
      rw [hyl]
      refine ⟨some ad, cap, ?_⟩
      rcases Nat.eq_zero_or_pos len with h0 | h0
      · have : ys = [] := List.eq_nil_of_length_eq_zero (by omega)
        subst this
        exact ⟨[], hu, hcap, rfl, fun k x v hx => by simp [flat] at hx, fun e => (by cases e), fun _ _ j v hv => by simp at hv⟩
      · have hsub : sized sz2 ys = true := sized_sub hsd fun e hm => by rw [← he] at hm; exact List.mem_of_mem_drop (List.mem_of_mem_take hm)
        obtain ⟨news, n1, n2, n3⟩ := news_of (C := C) (cs := flat ys) (b := l.blk) (p := l.base + off * sz') fun k x hk => by
          obtain ⟨i, j, e, hi, hj, hk', hjs⟩ := flat_split hsub hk
          have hi2 : els[off + i]? = some e := by
            rw [← he, List.getElem?_take] at hi
            split at hi
            · rw [List.getElem?_drop] at hi; exact hi
            · cases hi
          obtain ⟨w, hw, hvr⟩ := row_cells hsd hrow hlen hr hi2 j x hj
          refine ⟨w, ?_, hvr⟩
          rw [hk', ← hlz', hlz, ← hw]
          congr 2
          rw [Nat.add_mul]; omega
        exact ⟨news, hu, hcap, n1, n2, fun e => (by cases e), fun ad' e j v hv => by cases e; rw [had (by omega)]; exact n3 j v hv⟩
  · cases he
theorem SrcOf.ones {ys : List AV} {ad : Option Addr} {c : Nat} {news : List Value} (H : SrcOf C ys ad c news) {sz : Nat} (hs : sized sz ys = true) : ∀ u ∈ news, u.oneCell' = true := by
  intro u hu
  obtain ⟨k, hk, hu'⟩ := List.getElem_of_mem hu
  have hk' : k < (flat ys).length := by rw [← H.len]; exact hk
  obtain ⟨i, j, e, hi, hj, _, _⟩ := flat_split hs (List.getElem?_eq_getElem hk')
  refine (H.vr k _ u (List.getElem?_eq_getElem hk') (by rw [List.getElem?_eq_getElem hk, hu'])).one (List.all_eq_true.1 (sized_at hs hi).2 _ (List.mem_of_getElem? hj))
theorem SrcOf.src {ys : List AV} {ad : Option Addr} {c : Nat} {news : List Value} (H : SrcOf C ys ad c news) {sz : Nat} (hs : sized sz ys = true) {tu e' : TypeId} (hk : P.underlying tu = some (.slice e')) : Src P sz tu (.slice ad ys.length c) ys.length news C.w := by
  have hl : news.length = ys.length * sz := by rw [H.len, flat_length hs]
  cases had : ad with
  | none =>
    obtain ⟨h1, h2⟩ := H.none had
    subst h1
    have : news = [] := List.eq_nil_of_length_eq_zero (by simpa using hl)
    rw [this]
    exact Src.ofNil C.w hk c
  | some ad' => exact Src.ofSlice C.w hk ad' ys.length c news hl (H.cells ad' had) (H.ones hs)
theorem SrcOf.first {ys : List AV} {ad : Option Addr} {c : Nat} {news : List Value} (H : SrcOf C ys ad c news) {sz : Nat} (hs : sized sz ys = true) : (Builtin.firstCells sz ys.length (.slice ad ys.length c)).run P C.w.drew = .ok news.toArray C.w.drew := by
  have hl : news.length = ys.length * sz := by rw [H.len, flat_length hs]
  cases had : ad with
  | none =>
    obtain ⟨h1, h2⟩ := H.none had
    subst h1
    have : news = [] := List.eq_nil_of_length_eq_zero (by simpa using hl)
    rw [this]
    exact run_firstCells_none C.w.drew sz 0 0 c
  | some ad' => exact run_firstCells_some C.w.drew sz _ ad' _ c news hl (fun j v hj => by simpa using H.cells ad' had j v hj)

/-! ### bytes as a string -/
theorem strOf_ok : ∀ {els : List AV} {l : List Int}, strOf els = some l → els = l.map (fun i => .int .u8 i) ∧ (∀ i ∈ l, 0 ≤ i ∧ i < 256)
  | [], l, hl => by simp only [strOf, Option.some.injEq] at hl; subst hl; exact ⟨rfl, fun i hi => by simp at hi⟩
  | .int .u8 m :: els, l, hl => by
    simp only [strOf] at hl
    split at hl
    · rename_i hm
      simp only [Option.map_eq_some_iff] at hl
      obtain ⟨l', h1, rfl⟩ := hl
      obtain ⟨h2, h3⟩ := strOf_ok h1
      exact ⟨by rw [h2]; rfl, fun i hi => by rcases List.mem_cons.1 hi with rfl | hi; exact hm; exact h3 i hi⟩
    · cases hl
theorem ints_sized (l : List Int) : sized 1 (l.map fun i => AV.int .u8 i) = true := by
  unfold sized; rw [List.all_eq_true]; intro e he
  obtain ⟨i, _, rfl⟩ := List.mem_map.1 he
  rfl
theorem ints_flat (l : List Int) : flat (l.map fun i => AV.int .u8 i) = l.map fun i => AV.int .u8 i := by
  induction l with
  | nil => rfl
  | cons i l ih => simp only [flat, List.map_cons, List.flatMap_cons, AV.cells] at ih ⊢; rw [ih]; rfl
theorem SrcOf.ints {l : List Int} {ad : Option Addr} {c : Nat} {news : List Value} (H : SrcOf C (l.map fun i => AV.int .u8 i) ad c news) : news = l.map (Value.int .u8) := by
  have hl := H.len
  rw [ints_flat, List.length_map] at hl
  refine List.ext_getElem (by simpa using hl) fun k h1 h2 => ?_
  have h3 : k < l.length := by simpa using h2
  have := H.vr k (.int .u8 l[k]) news[k] (by rw [ints_flat]; simp [h3]) (List.getElem?_eq_getElem h1)
  rw [VR.int_inv this]
  simp
theorem op_convs {s d e : TypeId} {x : Operand} {x' : AOpd} {ts td te : TI} (F : Facts P T) (hop : o.op = .convert s d x) (hs : T s = some ts) (hd : T d = some td) (hks : ts.kind = .slice e) (hkd : td.kind = .string) (hte : T e = some te) (hke : te.kind = .int .u8) (hx : trOpd x = some x') (S : Sim C h) (hT : TR C t a n)
    {els : List AV} (he : elsOf h (ev t x') = some els) {l : List Int} (hl : strOf els = some l) : OpGood P o a C h (.str l) := by
  obtain ⟨h1, h2⟩ := strOf_ok hl
  subst h1
  obtain ⟨ad, c, news, hu, _, H⟩ := src_of S (ev_ok hT hx) he (ints_sized l)
  have hn := H.ints
  have hsrc := F.slice hs hks
  have hdst := F.str hd hkd
  have hel : P.underlying e = some (.int .u8) := by
    obtain ⟨d', h3, h4⟩ := F.und hte
    rw [hke] at h4
    rw [h3, (desc_int h4).1]
  have key : ∃ q : ByteArray, (convert s d (a.eval x)).run P C.w = .ok (.string q) C.w ∧ q.data.toList.map (fun b => (b.toNat : Int)) = l := by
    rw [hu]
    cases had : ad with
    | none =>
      obtain ⟨h3, h4⟩ := H.none had
      have : l = [] := by simpa using h3
      subst this
      exact ⟨ByteArray.empty, run_convert_bytes_nil C.w s e hsrc hel _ _ d hdst, rfl⟩
    | some ad' =>
      have hload : (loadCells ad' (l.map fun i => AV.int .u8 i).length).run P C.w = .ok (l.map (Value.int .u8)).toArray C.w := by
        have := run_loadCells_list (P := P) C.w ad' news (H.cells ad' had)
        rw [hn] at this
        simpa using this
      refine ⟨strOfNums l, ?_, ?_⟩
      · rw [run_convert_bytes_string C.w s d e _ _ c hsrc hel hdst, run_bytesToString C.w ad' _ c l hload, foldl_push_bytes]
        simp [strOfNums, ByteArray.empty, ByteArray.emptyWithCapacity]
        rfl
      · rw [strOfNums_data, List.map_map]
        conv => rhs; rw [← List.map_id l]
        refine List.map_congr_left fun i hi => ?_
        obtain ⟨h5, h6⟩ := h2 i hi
        have h7 : (UInt8.ofNat i.toNat).toNat = i.toNat % 2 ^ 8 := UInt8.toNat_ofNat'
        simp only [Function.comp, id, h7]
        omega
  obtain ⟨q, hq1, hq2⟩ := key
  refine OpGood.same (u := .string q) ?_ S (.str l q hq2)
  simp only [execOp, hop, Sem.run_bind, hq1, Result.andThen_ok]
  rfl
end
end Go.AM
