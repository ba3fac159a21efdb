/- The machine: its tables are the program's. -/
import Derived.Test.YtlkhbglofkfioaaGreatDm
import Derived.Test.YtlkhbglofkfioaaGreatC7
set_option maxRecDepth 100000
namespace Go.AM
open Go Go.Proofs
def own (f : Nat) : Option (List AV → Heap → Option (AV × Heap)) := match f with
  | 288 => some own288
  | 297 => some own297
  | _ => none
def prefixes : List Nat := [26, 27]
theorem eqs_ok : treeAll (fun t ti => !ti.eqOk || prefixes.contains t) tiTree (fun m => m) = true := by kernel_rfl
theorem eq26 : EqFact Tryz.prog 26 := eqFact_pair Tryz.underlying26 (by kernel_rfl) (by kernel_rfl) rfl rfl (by decide) (by decide) Tryz.underlying22 Tryz.underlying3 Tryz.isAgg22 Tryz.isAgg3
theorem eq27 : EqFact Tryz.prog 27 := eqFact_pair Tryz.underlying27 (by kernel_rfl) (by kernel_rfl) rfl rfl (by decide) (by decide) Tryz.underlying22 Tryz.underlying3 Tryz.isAgg22 Tryz.isAgg3
theorem machine : Machine Tryz.prog tyOf fetch own where
  facts := ⟨fun t ti h => typeFact_of ((treeAll_ok types_ok).get h), fun t ti h he => by
    have h1 := (treeAll_ok eqs_ok).get h
    rw [he] at h1
    have h2 : t ∈ prefixes := by simpa using h1
    simp only [prefixes, List.mem_cons, List.not_mem_nil, or_false] at h2
    rcases h2 with rfl | rfl
    · exact eq26
    · exact eq27⟩
  mixed := by kernel_rfl
  code f fn h := fetch_ok.get h
  later f g h := by
    unfold own at h
    split at h
    · cases h; exact own288_good.1
    · cases h; exact own297_good.1
    · cases h
  good f g h := by
    unfold own at h
    split at h
    · cases h; exact own288_good.2
    · cases h; exact own297_good.2
    · cases h
end Go.AM
