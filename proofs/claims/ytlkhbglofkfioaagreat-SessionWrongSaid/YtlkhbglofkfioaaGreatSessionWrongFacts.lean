/- Closed facts of one row. -/
import Derived.Test.YtlkhbglofkfioaaGreatF0
import Derived.Test.YtlkhbglofkfioaaGreatF1
import Derived.Test.YtlkhbglofkfioaaGreatRows
set_option maxRecDepth 100000
namespace Go.Proofs.YtlkhbglofkfioaaGreat
theorem and_true2 {a b : Bool} (h : a = true) (k : b = true) : (a && b) = true := by rw [h, k]; rfl
theorem sessionWrongRow_f0 : Rows.sessionWrongRow.wf (OpenSpec.ofChange Rows.sessionWrongSpec) = true := by kernel_rfl
theorem sessionWrongRow_f3 : Tryz.f10.params.all (Tryz.prog.readableRec ·) = true := by kernel_rfl
theorem sessionWrongRow_f4 : namedTie Tryz.prog Rows.sessionWrongRow.named Rows.sessionWrongSpec.vars = true := by kernel_rfl
theorem sessionWrongRow_f5 : (Rows.sessionWrongRow.stops == []) = true := by kernel_rfl
theorem sessionWrongRow_f7 : (Rows.sessionWrongRow.knobs == []) = true := by kernel_rfl
theorem sessionWrongRow_f9 : (Rows.sessionWrongRow.inPlace == Tryz.prog.inPlace 10) = true := by kernel_rfl
theorem sessionWrongRow_f10 : (Rows.sessionWrongRow.unfollowed == Tryz.prog.unfollowed 10) = true := by kernel_rfl
theorem sessionWrongRow_f11 : (Rows.sessionWrongRow.recurses == Tryz.prog.recurses 10) = true := by kernel_rfl
theorem sessionWrongRow_f12 : (Rows.sessionWrongRow.named == Tryz.prog.varsNamed 10) = true := by kernel_rfl
theorem sessionWrongRow_f13 : (Rows.sessionWrongRow.maps == (Tryz.f10.params.toList ++ Rows.sessionWrongSpec.plain.varTypes Tryz.prog).any (Tryz.prog.mapsRec ·)) = true := by kernel_rfl
theorem sessionWrongRow_f14 : (Rows.sessionWrongRow.ifaces == (Tryz.f10.params.toList ++ Rows.sessionWrongSpec.plain.varTypes Tryz.prog).any (Tryz.prog.ifacesRec ·)) = true := by kernel_rfl
theorem sessionWrongRow_f15 : (Rows.sessionWrongRow.mapsOut == Tryz.prog.mapsAmong Tryz.f10.resultTypes.toList) = true := by kernel_rfl
theorem sessionWrongRow_f16 : (Rows.sessionWrongRow.loops == (Tryz.f10.params.toList ++ Rows.sessionWrongSpec.plain.varTypes Tryz.prog).any (Tryz.prog.loopsFrom ·)) = true := by kernel_rfl
theorem sessionWrongRow_f17 : (Rows.sessionWrongRow.wideKeys == (Tryz.f10.params.toList ++ Rows.sessionWrongSpec.plain.varTypes Tryz.prog ++ Tryz.f10.resultTypes.toList).any (Tryz.prog.wideKeysFrom ·)) = true := by kernel_rfl
theorem sessionWrongRow_f18 : Rows.sessionWrongSpec.vars.all (Tryz.prog.varReadable ·) = true := by kernel_rfl
theorem sessionWrongRow_f19 : Tryz.f10.resultTypes.all (fun t => Tryz.prog.readableRec t && decide (t < Tryz.prog.types.size)) = true := by kernel_rfl
theorem sessionWrongRow_f20 : (Rows.sessionWrongRow.ifacesOut == Tryz.f10.resultTypes.toList.any (Tryz.prog.ifacesRec ·)) = true := by kernel_rfl
theorem sessionWrongRow_f21 : (Rows.sessionWrongRow.loopsOut == Tryz.f10.resultTypes.toList.any (Tryz.prog.loopsFrom ·)) = true := by kernel_rfl
theorem sessionWrongRow_f22 : (Rows.sessionWrongRow.plainKeys == Tryz.prog.plainKeys) = true := by kernel_rfl
theorem sessionWrongRow_f23 : Rows.sessionWrongRow.shortTexts.isNone = true := by kernel_rfl
theorem sessionWrongRow_f26 : (Rows.sessionWrongRow.lifted == Tryz.prog.liftsFinal) = true := by kernel_rfl
theorem sessionWrongRow_f27 : (Tryz.prog.make == some Rows.sessionWrongRow.make) = true := by kernel_rfl
theorem sessionWrongRow_f28 : (Rows.sessionWrongRow.kinds == (if Rows.sessionWrongRow.domain.isEmpty then [] else Tryz.f10.params.toList.map fun t => match Tryz.prog.underlying t with | some (.int k) => some k | _ => none)) = true := by kernel_rfl
theorem sessionWrongRow_f29 : (Rows.sessionWrongRow.pinned == Rows.sessionWrongRow.pinnedBy) = true := by kernel_rfl
theorem sessionWrongRow_f30 : (Rows.sessionWrongRow.veiled == (Tryz.f10.params.toList ++ Rows.sessionWrongSpec.plain.varTypes Tryz.prog ++ Tryz.f10.resultTypes.toList).any (Tryz.prog.veiledRec ·)) = true := by kernel_rfl
theorem sessionWrongRow_f31 : Rows.sessionWrongRow.veiledFits Tryz.prog Tryz.f10.params.toList (Tryz.f10.params.toList ++ Rows.sessionWrongSpec.plain.varTypes Tryz.prog ++ Tryz.f10.resultTypes.toList) = true := by kernel_rfl
theorem sessionWrongRow_closed : joinedFacts Tryz.prog 10 Tryz.f10 Rows.sessionWrongSpec Rows.sessionWrongRow = true := by
  unfold joinedFacts
  exact and_true2 (and_true2 (and_true2 (and_true2 (and_true2 (and_true2 (and_true2 (and_true2 (and_true2 (and_true2 (and_true2 (and_true2 (and_true2 (and_true2 (and_true2 (and_true2 (and_true2 (and_true2 (and_true2 (and_true2 (and_true2 (and_true2 (and_true2 (and_true2 (and_true2 (and_true2 (and_true2 (and_true2 (and_true2 (and_true2 (and_true2 sessionWrongRow_f0 pf0) pf1) sessionWrongRow_f3) sessionWrongRow_f4) sessionWrongRow_f5) pf2) sessionWrongRow_f7) pf3) sessionWrongRow_f9) sessionWrongRow_f10) sessionWrongRow_f11) sessionWrongRow_f12) sessionWrongRow_f13) sessionWrongRow_f14) sessionWrongRow_f15) sessionWrongRow_f16) sessionWrongRow_f17) sessionWrongRow_f18) sessionWrongRow_f19) sessionWrongRow_f20) sessionWrongRow_f21) sessionWrongRow_f22) sessionWrongRow_f23) pf4) pf5) sessionWrongRow_f26) sessionWrongRow_f27) sessionWrongRow_f28) sessionWrongRow_f29) sessionWrongRow_f30) sessionWrongRow_f31
end Go.Proofs.YtlkhbglofkfioaaGreat
