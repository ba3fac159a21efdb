/- SessionWrong: whatever the two numbers are, the law returns true and leaves its arguments as they were. No condition. -/
import Derived.Test.YtlkhbglofkfioaaGreatRows
import Derived.Test.YtlkhbglofkfioaaGreatSessionWrongRun
import Derived.Test.YtlkhbglofkfioaaGreatSessionWrongFacts
import Derived.WalkKit
import Derived.ProofKit
import Derived.OpenShut
import Derived.Carry
set_option linter.unusedVariables false
set_option maxRecDepth 100000
namespace Go.AM
open Go Go.Proofs
theorem goOn_some (t : Tmps) (h : Heap) (k : Tmps → Heap → Outc) : goOn (some (.normal, t, h)) k = k t h := rfl
theorem runParts_one (call : CallF) (n : Nat) (c : ACode) (t : Tmps) (h : Heap) : runParts call n [c] t h = acode call n c t h := goOn_normal _
theorem runParts_five {call : CallF} {n : Nat} {c1 c2 c3 c4 c5 : List ACode} {t0 ta tb tc td : Tmps} {h0 ha hb hc hd : Heap} {r : Outc} (q1 : runParts call n c1 t0 h0 = some (.normal, ta, ha)) (q2 : runParts call n c2 ta ha = some (.normal, tb, hb)) (q3 : runParts call n c3 tb hb = some (.normal, tc, hc))
    (q4 : runParts call n c4 tc hc = some (.normal, td, hd)) (q5 : runParts call n c5 td hd = r) : runParts call n (c1 ++ c2 ++ c3 ++ c4 ++ c5) t0 h0 = r := by
  rw [runParts_append, runParts_append, runParts_append, runParts_append, q1, goOn_some, q2, goOn_some, q3, goOn_some, q4, goOn_some, q5]
theorem run_ps (x y : Int) : ∃ t h, runParts cl 100 ps (argsIn [.int .i64 x, .int .i64 y] 0 .lf) Heap.none_ = some (.ret, t, h) ∧ tget t 4 = .bool true := by
  have b1 := within_bounds x 0 2 (by omega)
  have b2 := within_bounds y 4 7 (by omega)
  obtain ⟨r, e1⟩ : ∃ r, within x 0 2 = r := ⟨_, rfl⟩
  obtain ⟨k, e2⟩ : ∃ k, within y 4 7 = k := ⟨_, rfl⟩
  rw [e1] at b1
  rw [e2] at b2
  have hr : r = 0 ∨ r = 1 ∨ r = 2 := by omega
  have hk : k = 4 ∨ k = 5 ∨ k = 6 ∨ k = 7 := by omega
  have h2 : went (o2 x y r) = true ∧ tget (tmpsOf (o2 x y r)) 1 = .int .i64 y := by
    rcases hr with rfl | rfl | rfl
    · exact ⟨r2_0 x y, g2_0 x y⟩
    · exact ⟨r2_1 x y, g2_1 x y⟩
    · exact ⟨r2_2 x y, g2_2 x y⟩
  have h3 : came 4 (o3 x y r k) = true := by
    rcases hr with rfl | rfl | rfl <;> rcases hk with rfl | rfl | rfl | rfl
    · exact r3_0_4 x y
    · exact r3_0_5 x y
    · exact r3_0_6 x y
    · exact r3_0_7 x y
    · exact r3_1_4 x y
    · exact r3_1_5 x y
    · exact r3_1_6 x y
    · exact r3_1_7 x y
    · exact r3_2_4 x y
    · exact r3_2_5 x y
    · exact r3_2_6 x y
    · exact r3_2_7 x y
  obtain ⟨h4, h5⟩ := came_eq h3
  have q1 := (o1.eq_1 x y).symm.trans (went_eq (r1 x y))
  have q3 := (o2.eq_1 x y r).symm.trans (went_eq h2.1)
  have q5 := (o3.eq_1 x y r k).symm.trans h4
  have g1' := g1 x y
  refine ⟨tmpsOf (o3 x y r k), heapOf (o3 x y r k), ?_, h5⟩
  rw [ps_split]
  refine runParts_five q1 ?_ q3 ?_ q5
  · rw [w1_is, runParts_one, within_part (m := 99) g1' (by decide) (by omega) (by omega) (by omega), e1]
    unfold t1
    rfl
  · rw [w2_is, runParts_one, within_part (m := 99) h2.2 (by decide) (by omega) (by omega) (by omega), e2]
    unfold t2
    rfl
theorem run_law (x y : Int) : ∃ h, acall fetch own 101 10 [.int .i64 x, .int .i64 y] Heap.none_ = some (.bool true, h) := by
  obtain ⟨t, h, h1, h2⟩ := run_ps x y
  refine ⟨h, acall_parts (fn := a10) (vs := [.bool true]) rfl rfl rfl h1 (fun i hi => by cases hi) ?_ rfl⟩
  show (resOf t h (.tmp 4)).bind _ = _
  simp only [resOf, h2]
  rfl
theorem vrs_ints (C : Ctx) (a b : Int) : VRs C [.int .i64 a, .int .i64 b] #[.int .i64 a, .int .i64 b] := by
  refine ⟨rfl, fun i x v hx hv => ?_⟩
  match i with
  | 0 => simp at hx hv; subst hx; subst hv; exact .int _ _
  | 1 => simp at hx hv; subst hx; subst hv; exact .int _ _
  | i + 2 => simp at hx
end Go.AM
namespace Go.Proofs.YtlkhbglofkfioaaGreat
open Go.ChangeShapes Go.WideShapes Go.ChangeAt Go.RowKit Go.AM
theorem own_none : ownKnob Tryz.prog.godebug = none := by kernel_rfl
theorem walk (a0 : Int) (a1 : Int) (w : World) : Calls Tryz.prog 10 #[.int .i64 a0, .int .i64 a1] w fun e w' => e = .returned (.bool true) ∧ Below w.heap.size w w' := by
  obtain ⟨h, hrun⟩ := run_law a0 a1
  exact calls_true machine Tryz.func10 rfl (by decide) (vrs_ints _ a0 a1) hrun
theorem lifted (os : Os) (started : os.Started) (H : Type) (enc : TypeId × Value → H) :
    ReturnsInHanded {} Tryz.checked os 10 .any (Rows.sessionWrongSpec.pre6 enc Tryz.prog Tryz.f10 Rows.sessionWrongRow.domain false) (Rows.sessionWrongSpec.post enc Tryz.prog Tryz.f10 false true false false) := by
  refine returnsInHanded_of_change (C := Tryz.checked) own_none started (by kernel_rfl) Tryz.func10
    (ChangeSpec.witness6 (enc := enc) (C := Tryz.checked) false ⟨#[], #[.int .i64 0, .int .i64 0], []⟩ 8 (by kernel_rfl) (by kernel_rfl) (by kernel_rfl) (by kernel_rfl)) ?_
  intro W base args ds gs before hval0 hW hcnd _
  have hval : ∀ (j : Nat) t v, Tryz.f10.params[j]? = some t → args[j]? = some v → Value.okWide Tryz.prog W .any base t v := hval0
  have hW' := hW
  obtain ⟨p, q, hA0, hV, rfl, hfz, hnd⟩ := hW
  have hA : DataW.TrodAll enc Tryz.prog W 0 (fun _ => true) true Tryz.f10.params.toList args.toList ds p := hA0
  rw [Tryz.params10] at hA hval
  obtain ⟨v0, vs0, d0, ds0, p0, q0, hargs, rfl, rfl, h0, r0⟩ := trodAll_cons hA
  obtain ⟨v1, vs1, d1, ds1, p1, q1, rfl, rfl, rfl, h1, r1⟩ := trodAll_cons r0
  obtain ⟨rfl, rfl, rfl⟩ := trodAll_nil r1
  obtain rfl : args = #[v0, v1] := by cases args; simp_all
  obtain ⟨rfl, rfl⟩ := trodVars_none hV
  obtain ⟨a0, rfl, rfl, rfl, w0⟩ := open_int Tryz.underlying3 (hval 0 3 v0 rfl rfl) h0
  obtain ⟨a1, rfl, rfl, rfl, w1⟩ := open_int Tryz.underlying3 (hval 1 3 v1 rfl rfl) h1
  clear hA0 hval0
  simp only [List.append_nil] at hW'
  refine (walk a0 a1 W).mono fun e W' ⟨he, hg⟩ => ?_
  subst he
  exact ⟨_, rfl, _, _, _, [], _, [], hW', trodAll_cons_mk (shut_bool Tryz.underlying4 _) trodAll_mk0, trodAll_cons_mk (shut_int Tryz.underlying3 w0) (trodAll_cons_mk (shut_int Tryz.underlying3 w1) trodAll_mk0), rfl, hg.frame _, fun h => by cases h⟩
theorem over : Rows.sessionWrongRow.holds Tryz.pinned (OpenSpec.ofChange Rows.sessionWrongSpec) :=
  OpenClaim.holds_of_wide 10 Tryz.f10 rfl rfl rfl rfl rfl rfl rfl ⟨rfl, rfl, rfl, rfl, rfl⟩ rfl rfl rfl rfl rfl (by kernel_rfl) Tryz.func10 sessionWrongRow_closed
    (of_decide_eq_true (by kernel_rfl)) (by unfold Func.isWrapper; first | (rw [if_pos (by decide +kernel)]; kernel_rfl) | (rw [if_neg (by decide +kernel)]; exact ⟨rfl, rfl⟩))
    (fun os started H enc _ => lifted os started H enc)
theorem sessionWrong_holds : Rows.SessionWrongSaid := over
#print axioms sessionWrong_holds
end Go.Proofs.YtlkhbglofkfioaaGreat
