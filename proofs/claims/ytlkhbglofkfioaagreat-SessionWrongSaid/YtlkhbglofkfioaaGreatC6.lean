/- What is not run but reckoned: numbers gathered off an iterator. -/
import Derived.Test.YtlkhbglofkfioaaGreatC4
import Derived.Test.YtlkhbglofkfioaaGreatC5
set_option linter.unusedVariables false
set_option linter.unusedSimpArgs false
set_option maxRecDepth 100000
namespace Go.AM
open Go Go.Proofs Go.RowKit
/-! ### memory that grew elsewhere -/
theorem Trans.later {C : Ctx} {w : World} (B : Below C.w.heap.size C.w w) (hbl : ∀ j l, C.loc j = some l → l.blk < C.w.heap.size) : Trans C (C.at_ w) where
  os := B.os
  tape := B.tape
  output := B.output
  size := B.size
  keep b hb ho := ⟨B.block b hb, ho⟩
  ver _ := Nat.le_refl _
  loc _ _ hl _ := hl
  zero _ _ _ h0 := h0
  row id l hl _ row e hr := ⟨row, (B.block _ (hbl id l hl)).trans hr, rfl⟩
  held := rfl
theorem Sim.later {C : Ctx} {h : Heap} (S : Sim C h) {w : World} (B : Below C.w.heap.size C.w w) : Sim (C.at_ w) h where
  ver := S.ver
  fresh := S.fresh
  obj id := ObjOk.stay (Trans.later B (fun j l hj => S.loc_lt hj)) rfl (fun l hl => B.block _ (S.loc_lt hl)) (fun _ _ => Iff.rfl) (S.obj id)
  apart := S.apart
  bound b hb := Nat.lt_of_lt_of_le (S.bound b hb) B.size
  held := S.held
/-- An object that comes to lie in a block that nobody had. -/
def Ctx.landAt (C : Ctx) (id v sz g : Nat) (w : World) : Ctx where
  loc j := if j = id then some ⟨g, 0, sz⟩ else C.loc j
  own b := C.own b ∨ b = g
  ver j := if j = id then v else C.ver j
  w := w
  held := C.held
theorem Trans.landAt {C : Ctx} {id v sz g : Nat} {w : World} (B : Below C.w.heap.size C.w w) (hg : C.w.heap.size ≤ g) (hl : C.loc id = none) (hv : C.ver id ≤ v) (hbl : ∀ j l, C.loc j = some l → l.blk < C.w.heap.size) : Trans C (C.landAt id v sz g w) where
  os := B.os
  tape := B.tape
  output := B.output
  size := B.size
  keep b hb ho := ⟨B.block b hb, fun h => h.elim ho (fun e => by subst e; omega)⟩
  ver j := by
    show C.ver j ≤ if j = id then v else C.ver j
    split
    · rename_i e; rw [e]; exact hv
    · exact Nat.le_refl _
  loc j l hj _ := by
    show (if j = id then _ else C.loc j) = some l
    rw [if_neg (fun e => by rw [e, hl] at hj; cases hj)]; exact hj
  zero j l hj h0 := by
    show (if j = id then v else C.ver j) = 0
    rw [if_neg (fun e => by rw [e, hl] at hj; cases hj)]; exact h0
  row j l hj _ row e hr := ⟨row, (B.block _ (hbl j l hj)).trans hr, rfl⟩
  held := rfl
theorem Sim.landAt {C : Ctx} {h h' : Heap} (S : Sim C h) (id v sz g : Nat) {w : World} (B : Below C.w.heap.size C.w w) (hg : C.w.heap.size ≤ g) (hgw : g < w.heap.size) (hl : C.loc id = none) (hle : C.ver id ≤ v) (hget : ∀ j, j ≠ id → h'.get j = h.get j) (hv : verOf h' id = v)
    (hfresh : ∀ j, h'.next ≤ j → h'.get j = none) (hid : ObjOk (C.landAt id v sz g w) id (h'.get id)) (hheld : ¬ C.held id) : Sim (C.landAt id v sz g w) h' := by
  have T : Trans C (C.landAt id v sz g w) := Trans.landAt B hg hl hle (fun j l hj => S.loc_lt hj)
  refine S.step T id hget (fun j hj => by show (if j = id then _ else C.loc j) = C.loc j; rw [if_neg hj]) (fun j => ?_) (fun j l _ hj => B.block _ (S.loc_lt hj))
    (fun j l _ hj => ⟨fun h => ?_, fun h => .inl h⟩) hfresh hid (fun j lj li hj hlj hli _ => ?_) (fun b hb => ?_) hheld
  · show (if j = id then v else C.ver j) = verOf h' j
    by_cases e : j = id
    · rw [if_pos e, e, hv]
    · rw [if_neg e, S.ver j]
      unfold verOf
      rw [hget j e]
  · rcases h with h | h
    · exact h
    · have := S.loc_lt hj
      omega
  · have h2 : (if id = id then some (⟨g, 0, sz⟩ : Loc) else C.loc id) = some li := hli
    rw [if_pos rfl] at h2
    cases h2
    have := S.loc_lt hlj
    show g ≠ lj.blk
    omega
  · show b < w.heap.size
    rcases hb with hb | hb
    · exact Nat.lt_of_lt_of_le (S.bound b hb) B.size
    · omega
theorem Sim.newArrAt {C : Ctx} {h : Heap} (S : Sim C h) (sz : Nat) (els : List AV) (row : Array Value) (e : TypeId) (len cap g : Nat) {w : World} (B : Below C.w.heap.size C.w w) (hg : C.w.heap.size ≤ g) (hrow : w.heap[g]? = some (.cells row e (0, 0))) (hs : sized sz els = true) (hr : RowOf C sz els row 0) (hlen : els.length * sz ≤ row.size) (hl : len ≤ cap) (hcap : cap * sz ≤ row.size) :
    let C' := C.landAt h.next 1 sz g w
    Trans C C' ∧ Sim C' (h.push ⟨.arr sz els false, 1, 0⟩) ∧ VR C' (.ob h.next 1 sz 0 len) (.slice (some ⟨g, 0, none⟩) len cap) := by
  intro C'
  obtain ⟨h1, h2⟩ := fresh_loc S
  have Tr : Trans C C' := Trans.landAt B hg h1 (by omega) (fun j l hj => S.loc_lt hj)
  have hloc : C'.loc h.next = some ⟨g, 0, sz⟩ := by show (if h.next = h.next then _ else _) = _; rw [if_pos rfl]
  have hver : C'.ver h.next = 1 := by show (if h.next = h.next then 1 else _) = 1; rw [if_pos rfl]
  refine ⟨Tr, S.landAt h.next 1 sz g B hg (Array.getElem?_eq_some_iff.1 hrow).1 h1 (by omega) (fun j hj => by rw [Heap.get_push, if_neg hj]) (by rw [verOf_push, if_pos rfl]) (push_fresh S _) ?_ S.next_not_held, ?_⟩
  · rw [Heap.get_push, if_pos rfl]
    exact ⟨Nat.le_refl _, _, hloc, rfl, fun _ => .inr rfl, fun hh => (by cases hh), hs, row, e, hrow, by simpa using hlen, fun i j e x v hi hj hv => (hr i j e x v hi hj hv).trans Tr⟩
  · refine VR.ob (C := C') h.next 1 sz 0 len _ cap hl (Nat.le_refl _) (by rw [hver]; exact Nat.le_refl _) fun _ => ⟨_, row, e, hloc, rfl, fun _ => by simp, hrow, by simpa using hcap⟩

theorem elsOf_inv {h : Heap} {x : AV} {ys : List AV} (he : elsOf h x = some ys) : (∃ tag, x = .sl ys tag) ∨ ∃ id ver sz0 off len sz els ro st, x = .ob id ver sz0 off len ∧ arrAt h id ver = some (sz, els, ro, st) ∧ off + len ≤ els.length ∧ (els.drop off).take len = ys := by
  cases x with
  | sl els tag => cases he; exact .inl ⟨tag, rfl⟩
  | ob id ver sz0 off len =>
    obtain ⟨⟨sz, els, ro, st⟩, hg, he⟩ := Option.bind_eq_some_iff.1 he
    simp only at he
    cases hb : Nat.ble (off + len) els.length with
    | false => rw [hb] at he; cases he
    | true =>
      rw [hb] at he
      simp only [cond_true, Option.some.injEq] at he
      exact .inr ⟨id, ver, sz0, off, len, sz, els, ro, st, rfl, hg, Nat.le_of_ble_eq_true hb, he⟩
  | _ => cases he

/-! ### slices.AppendSeq(nil, slices.Values(l)) -/
def isU32 : AV → Bool
  | .int .u32 _ => true
  | _ => false
def most47 : Nat := 140737488351232
def gatherU (h : Heap) (x : AV) : List AV → Option (AV × Heap)
  | [] => (match x with | .sl [] .nil => some (.sl [] .nil, h) | _ => none)
  | e :: r => bif (e :: r).all isU32 && Nat.ble ((e :: r).length * 4) most47 then some (.ob h.next 1 1 0 (e :: r).length, h.push ⟨.arr 1 (e :: r) false, 1, 0⟩) else none
def own297 : List AV → Heap → Option (AV × Heap)
  | [.sl [] .nil, .fn f [.ptr b 0]], h => bif Nat.beq f 263 then (match h.get b with
      | some ⟨.var [x], _, _⟩ => (elsOf h x).bind fun els => gatherU h x els
      | _ => none) else none
  | _, _ => none
def intOfU : AV → Int
  | .int _ n => n
  | _ => 0
theorem VRs.two_inv {C : Ctx} {x y : AV} {us : Array Value} (H : VRs C [x, y] us) : ∃ u v, us = #[u, v] ∧ VR C x u ∧ VR C y v := by
  have h1 := H.1
  have h2 : us.size = 2 := by rw [h1]; rfl
  refine ⟨us[0], us[1], ?_, H.2 0 x _ rfl (Array.getElem?_eq_getElem (by omega)), H.2 1 y _ rfl (Array.getElem?_eq_getElem (by omega))⟩
  apply Array.ext
  · show us.size = 2; exact h2
  · intro i hi hj
    have : i = 0 ∨ i = 1 := by simp at hj; omega
    rcases this with rfl | rfl <;> rfl
def wideFence : Fence := { fn := fun _ => True }
theorem wide_room (k : Nat) : wideFence.room k := fun d h => by cases h
theorem enters263 : ∀ args w, (callFunc 263 args).run Tryz.prog w = .ok (.enter 263 args) w := enters_of Tryz.func263 (by kernel_rfl) rfl
theorem enters297 : ∀ args w, (callFunc 297 args).run Tryz.prog w = .ok (.enter 297 args) w := enters_of Tryz.func297 (by kernel_rfl) rfl
theorem yield_imp {F : Fence} {n : Nat} {P : Program} {l : Nat} {args : Array Value} {w : World} {R R' : Ending → World → Prop} (h : YieldAt F n P l args w R) (hr : ∀ e w', R e w' → R' e w') : YieldAt F n P l args w R' := by
  obtain ⟨fn, tmps, assign, body, hy, hR⟩ := h
  exact ⟨fn, tmps, assign, body, hy, hR.mono hr⟩
theorem gathers_nil (w : World) (Bs : Nat) (hlt : Bs < w.heap.size) (hBs : w.cell? ⟨Bs, 0, none⟩ = some (.slice none 0 0)) :
    Calls Tryz.prog 297 #[.slice none 0 0, .func (.func 263) #[] #[.pointer (some ⟨Bs, 0, none⟩)]] w fun e w' => e = .returned (.slice none 0 0) ∧ Below w.heap.size w w' := by
  refine ((apu_appendSeq_in wideFence 5 trivial rfl (by omega) 263 #[.pointer (some ⟨Bs, 0, none⟩)] trivial enters263 (fun ss => ss = []) 0 (by simp) (by omega) w (fun l J W hW hY h0 => ?_)).mono ?_).calls wide_room
  · exact (valuesU_nil_in wideFence 4 trivial rfl l Bs J W ((hW.cell (p := ⟨Bs, 0, none⟩) hlt).trans hBs) h0).mono fun e W' ⟨he, hj⟩ => ⟨he, [], rfl, hj⟩
  · rintro e w' ⟨v, ss, rfl, rfl, _, hn, hb⟩
    rw [hn.2 rfl]
    exact ⟨rfl, hb⟩
theorem gathers (w : World) (Bs b off cap : Nat) (zs : List Int) (hlt : Bs < w.heap.size) (hb : b < w.heap.size) (hreach : zs.length * 4 ≤ 140737488351232) (hBs : w.cell? ⟨Bs, 0, none⟩ = some (.slice (some ⟨b, off, none⟩) zs.length cap))
    (hc : ∀ j, j < zs.length → w.cell? ⟨b, off + j, none⟩ = some (.int .u32 (zs[j]?.getD 0))) :
    Calls Tryz.prog 297 #[.slice none 0 0, .func (.func 263) #[] #[.pointer (some ⟨Bs, 0, none⟩)]] w fun e w' => ∃ v, e = .returned v ∧ w'.ownsRow w.heap.size 22 1 v zs.length (zs.map encU) ∧ (v = .slice none 0 0 ↔ zs = []) ∧ Below w.heap.size w w' := by
  refine ((apu_appendSeq_in wideFence 5 trivial rfl (by omega) 263 #[.pointer (some ⟨Bs, 0, none⟩)] trivial enters263 (fun ss => ss = zs) zs.length (by unfold maxLen; omega) (by omega) w (fun l J W hW hY h0 => ?_)).mono ?_).calls wide_room
  · refine (valuesU_in wideFence 4 trivial rfl (by omega) l Bs w.heap.size b off zs.length cap zs hreach hb J (fun _ _ => False) (fun pre x W1 hJ hl => yield_imp (hY pre x W1 hJ hl) fun e w' hr => .inl hr) W ((hW.cell (p := ⟨Bs, 0, none⟩) hlt).trans hBs) (fun j hj => (hW.cell (p := ⟨b, off + j, none⟩) hb).trans (hc j hj)) h0).mono ?_
    rintro e W' ⟨he, ⟨ys, rfl, hj⟩ | ⟨_, _, hf⟩⟩
    · exact ⟨he, _, uptoV_all zs, hj⟩
    · exact hf.elim
  · rintro e w' ⟨v, ss, rfl, rfl, h1, hn, hb⟩
    exact ⟨v, rfl, h1, hn, hb⟩
theorem goes_of_calls {P : Program} {f : FuncId} {us : Array Value} {w : World} {K : Value → World → Prop} (he : (callFunc f us).run P w = .ok (.enter f us) w) (h : Calls P f us w fun e w' => ∃ u, e = .returned u ∧ K u w') : GoesTo P f us w K := by
  unfold GoesTo
  rw [he]
  refine Calls.mono h fun e w' hr => ?_
  obtain ⟨u, rfl, hk⟩ := hr
  exact hk
theorem own297_good : OwnGood Tryz.prog 297 own297 := by
  constructor
  · intro args h v h' hv hf
    unfold own297 at hv
    split at hv
    · rename_i f b
      cases hb : Nat.beq f 263 with
      | false => rw [hb] at hv; cases hv
      | true =>
        rw [hb] at hv
        simp only [cond_true] at hv
        split at hv
        · rename_i x _ _ hg
          obtain ⟨els, he, hv⟩ := Option.bind_eq_some_iff.1 hv
          unfold gatherU at hv
          split at hv
          · split at hv
            · cases hv; exact Later.refl hf
            · cases hv
          · rename_i e r
            cases hb2 : ((e :: r).all isU32 && Nat.ble ((e :: r).length * 4) most47) with
            | false => rw [hb2] at hv; cases hv
            | true => rw [hb2] at hv; cases hv; exact Later.push hf _
        · cases hv
    · cases hv
  · intro args h v h' hv C us S hus K hK
    unfold own297 at hv
    split at hv
    · rename_i f b
      cases hb : Nat.beq f 263 with
      | false => rw [hb] at hv; cases hv
      | true =>
        rw [hb] at hv
        simp only [cond_true] at hv
        have hf := Nat.eq_of_beq_eq_true hb
        subst hf
        split at hv
        · rename_i x ver st hg
          obtain ⟨els, he, hv⟩ := Option.bind_eq_some_iff.1 hv
          obtain ⟨u0, u1, hus1, hu0, hu1⟩ := hus.two_inv
          subst hus1
          have hu0' : u0 = .slice none 0 0 := by
            obtain ⟨ad, c, _, _, _, hu, _, htg, _⟩ := VR.sl_inv hu0
            obtain ⟨h1, h2, h3⟩ := htg
            rw [hu, h1, h3]; rfl
          subst hu0'
          obtain ⟨vs, hu1', hvs, hvr⟩ := VR.fn_inv hu1
          subst hu1'
          obtain ⟨p, hp, hpv⟩ := VRs.one_inv (C := C) (x := .ptr b 0) (us := vs) ⟨hvs, hvr⟩
          subst hp
          obtain ⟨l, hpu, hl, hbase, _⟩ := VR.ptr_inv hpv
          subst hpu
          have ho := S.obj b
          rw [hg] at ho
          obtain ⟨_, ho⟩ := ho
          obtain ⟨_, _, row, e, hrow, hsz, _, hrv⟩ := ho l hl
          have hlt : l.blk < C.w.heap.size := S.loc_lt hl
          have h0 : 0 < row.size := by rw [hsz]; exact Nat.zero_lt_one
          have hcell : C.w.cell? ⟨l.blk, 0, none⟩ = some row[0] := by
            rw [cell?_at, hrow]
            exact Array.getElem?_eq_getElem h0
          have hxv : VR C x row[0] := hrv 0 x _ rfl (Array.getElem?_eq_getElem h0)
          unfold gatherU at hv
          split at hv
          · split at hv
            · rename_i _ he2
              cases hv
              have hx0 : row[0] = .slice none 0 0 := by
                obtain ⟨ad, c, _, _, _, hu, _, htg, _⟩ := VR.sl_inv hxv
                obtain ⟨h1, h2, h3⟩ := htg
                rw [hu, h1, h3]; rfl
              rw [hx0] at hcell
              refine goes_of_calls (enters297 _ _) ((gathers_nil C.w l.blk hlt hcell).mono fun e w' ⟨he3, hB⟩ => ⟨_, he3, ?_⟩)
              exact hK (C.at_ w') _ (Trans.later hB fun j l hj => S.loc_lt hj) (S.later hB) (VR.ofOne (v := .slice none 0 0) rfl)
            · cases hv
          · rename_i e1 r1
            cases hb2 : ((e1 :: r1).all isU32 && Nat.ble ((e1 :: r1).length * 4) most47) with
            | false => rw [hb2] at hv; cases hv
            | true =>
              rw [hb2] at hv
              cases hv
              simp only [Bool.and_eq_true] at hb2
              obtain ⟨hall, hle⟩ := hb2
              have hle := Nat.le_of_ble_eq_true hle
              unfold most47 at hle
              have hint : ∀ z ∈ e1 :: r1, ∃ n, z = .int .u32 n := by
                intro z hz
                have := List.all_eq_true.1 hall z hz
                cases z <;> try (cases this; done)
                rename_i k n
                cases k <;> first | exact ⟨_, rfl⟩ | cases this
              have hsd : sized 1 (e1 :: r1) = true := by
                unfold sized
                rw [List.all_eq_true]
                intro z hz
                obtain ⟨n, rfl⟩ := hint z hz
                rfl
              -- where the numbers lie
              have hsrc : ∃ bk off cap, row[0] = .slice (some ⟨bk, off, none⟩) (e1 :: r1).length cap ∧ bk < C.w.heap.size ∧ ∀ (j : Nat) (z : AV), (e1 :: r1)[j]? = some z → ∃ u, C.w.cell? ⟨bk, off + j, none⟩ = some u ∧ VR C z u := by
                have one : ∀ {z : AV}, z ∈ e1 :: r1 → z.cells = [z] := fun hz => by obtain ⟨n, rfl⟩ := hint _ hz; rfl
                rcases elsOf_inv he with ⟨tag, hx⟩ | ⟨id, ver', sz0, off0, len0, sz, els2, ro, st2, hx, hga, hfit, he⟩
                · rw [hx] at hxv
                  obtain ⟨ad, c, bk, off, sz', hu, hn, ht, ha, hs', hc, hr⟩ := VR.sl_inv hxv
                  obtain ⟨h1, h2, h3⟩ := ha (by simp)
                  refine ⟨bk, off, c, by rw [hu, h1], h3, fun j z hj => ?_⟩
                  have hzc : z.cells[0]? = some z := by rw [one (List.mem_of_getElem? hj)]; rfl
                  have hsz1 : sz' = 1 := by
                    have h4 := (sized_at hs' hj).1
                    rw [one (List.mem_of_getElem? hj)] at h4
                    exact h4.symm
                  subst hsz1
                  have h5 := hc j z 0 z hj hzc
                  obtain ⟨u, hu5⟩ := Option.isSome_iff_exists.1 h5
                  have h6 := hr j z 0 z u hj hzc hu5
                  rw [Nat.mul_one, Nat.add_zero] at hu5
                  exact ⟨u, hu5, h6⟩
                · rw [hx] at hxv
                  · skip
                    obtain ⟨hver, hver1, l2, row2, et, hl2, hlz, _, _, hsd2, hrow2, hlen2, hr2⟩ := S.arrAt hga
                    obtain ⟨ad, cap, hu, hcap, _, _, hh⟩ := VR.ob_inv hxv
                    obtain ⟨l3, row3, e3, hl3, hlz3, had, hrow3, hroom3⟩ := hh hver
                    rw [hl2] at hl3
                    cases hl3
                    rw [hrow2] at hrow3
                    cases hrow3
                    have hlen : len0 = (e1 :: r1).length := by rw [← he]; simp; omega
                    have hpos : 0 < cap := by rw [hlen] at hcap; simp at hcap; omega
                    have hsz1 : sz = 1 := by
                      have h4 : els2[off0 + 0]? = some e1 := by
                        have h5 : ((els2.drop off0).take len0)[0]? = some e1 := by rw [he]; rfl
                        rw [List.getElem?_take] at h5
                        split at h5
                        · rwa [List.getElem?_drop] at h5
                        · cases h5
                      have h6 := (sized_at hsd2 h4).1
                      rw [one List.mem_cons_self] at h6
                      exact h6.symm
                    subst hsz1
                    obtain rfl : sz0 = 1 := hlz3.symm.trans hlz
                    refine ⟨l2.blk, l2.base + off0 * 1, cap, by rw [hu, had hpos, hlen], S.loc_lt hl2, fun j z hj => ?_⟩
                    have h4 : els2[off0 + j]? = some z := by
                      rw [← he] at hj
                      rw [List.getElem?_take] at hj
                      split at hj
                      · rwa [List.getElem?_drop] at hj
                      · cases hj
                    obtain ⟨u, h5, h6⟩ := row_cells hsd2 hrow2 hlen2 hr2 h4 0 z (by rw [one (List.mem_of_getElem? hj)]; rfl)
                    refine ⟨u, ?_, h6⟩
                    rw [← h5]; congr 2; omega
              obtain ⟨bk, off, cap, hx0, hbk, hcs⟩ := hsrc
              rw [hx0] at hcell
              have hzl : ((e1 :: r1).map intOfU).length = (e1 :: r1).length := by simp
              have hcs' : ∀ j, j < ((e1 :: r1).map intOfU).length → C.w.cell? ⟨bk, off + j, none⟩ = some (.int .u32 (((e1 :: r1).map intOfU)[j]?.getD 0)) := by
                intro j hj
                rw [hzl] at hj
                obtain ⟨u, h4, h5⟩ := hcs j _ (List.getElem?_eq_getElem hj)
                rw [h4, List.getElem?_map, List.getElem?_eq_getElem hj]
                obtain ⟨n, hn⟩ := hint _ (List.getElem_mem hj)
                rw [hn] at h5
                rw [VR.int_inv h5, hn]
                rfl
              refine goes_of_calls (enters297 _ _) ((gathers C.w l.blk bk off cap ((e1 :: r1).map intOfU) hlt hbk (by rw [hzl]; exact hle) (by rw [hzl]; exact hcell) hcs').mono fun e w' ⟨v, he3, hown, hnil, hB⟩ => ⟨v, he3, ?_⟩)
              have hrow' : ∃ g cap' cur, v = .slice (some ⟨g, 0, none⟩) ((e1 :: r1).map intOfU).length cap' ∧ C.w.heap.size ≤ g ∧ w'.heap[g]? = some (.cells cur 22 (0, 0)) ∧ ((e1 :: r1).map intOfU).length ≤ cap' ∧ cap' ≤ maxLen ∧ cur.size = cap' * 1 ∧ cur.toList.take (((e1 :: r1).map intOfU).length * 1) = ((e1 :: r1).map intOfU).map encU := by
                rcases hown.2 with ⟨h4, _⟩ | h4
                · have := hnil.1 h4
                  simp at this
                · exact h4
              obtain ⟨g, cap', cur, rfl, hgb, hcur, hlc, _, hcsz, htake⟩ := hrow'
              rw [hzl] at hlc htake
              have hR : RowOf C 1 (e1 :: r1) cur 0 := by
                intro i j z x' u hi hj hu
                obtain ⟨n, rfl⟩ := hint z (List.mem_of_getElem? hi)
                cases j with
                | zero =>
                  simp only [AV.cells, List.getElem?_cons_zero, Option.some.injEq] at hj
                  subst hj
                  have hil := (List.getElem?_eq_some_iff.1 hi).1
                  have h5 : (cur.toList.take ((e1 :: r1).length * 1))[i]? = some u := by
                    rw [List.getElem?_take, if_pos (by omega)]
                    rw [← hu, Array.getElem?_toList]
                    congr 1; omega
                  rw [htake, List.getElem?_map, List.getElem?_map, hi] at h5
                  simp only [Option.map_some, Option.some.injEq, intOfU] at h5
                  rw [← h5]
                  exact .int _ _
                | succ j => simp [AV.cells] at hj
              obtain ⟨T2, S2, hv2⟩ := S.newArrAt 1 (e1 :: r1) cur 22 (e1 :: r1).length cap' g hB hgb hcur hsd hR (by rw [hcsz]; omega) hlc (by rw [hcsz]; exact Nat.le_refl _)
              rw [hzl]
              exact hK _ _ T2 S2 hv2
        · cases hv
    · cases hv
end Go.AM
