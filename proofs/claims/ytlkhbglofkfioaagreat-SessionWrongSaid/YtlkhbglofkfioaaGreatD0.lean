/- The types, as the abstract machine has them. -/
import Derived.Test.YtlkhbglofkfioaaGreatC1
import Derived.Test.YtlkhbglofkfioaaGreatC3
import Derived.Test.YtlkhbglofkfioaaGreatChecked
set_option maxRecDepth 100000
namespace Go.AM
open Go Go.Proofs
def ti3 : TI := ⟨1, 8, false, (.int .i64 0), (.int .i64), false⟩
def ti4 : TI := ⟨1, 1, false, (.bool false), .bool, false⟩
def ti5 : TI := ⟨1, 1, false, (.int .u8 0), (.int .u8), false⟩
def ti9 : TI := ⟨1, 16, false, (.str []), .string, false⟩
def ti22 : TI := ⟨1, 4, false, (.int .u32 0), (.int .u32), false⟩
def ti27 : TI := ⟨2, 16, true, (.agg [(.int .u32 0), (.int .i64 0)]), (.struct [(0, 22), (1, 3)]), true⟩
def ti28 : TI := ⟨1, 24, false, (.sl [] .nil), (.slice 111), false⟩
def ti29 : TI := ⟨1, 24, false, (.sl [] .nil), (.slice 22), false⟩
def ti31 : TI := ⟨9, 80, true, (.agg [(.int .i64 0), (.sl [] .nil), (.int .u32 0), (.bool false), (.int .u32 0), (.bool false), (.int .u32 0), (.bool false), (.sl [] .nil)]), (.struct [(0, 3), (1, 28), (2, 22), (3, 4), (4, 22), (5, 4), (6, 22), (7, 4), (8, 29)]), false⟩
def ti43 : TI := ⟨1, 24, false, (.sl [] .nil), (.slice 5), false⟩
def ti45 : TI := ⟨1, 24, false, (.sl [] .nil), (.slice 43), false⟩
def ti48 : TI := ⟨1, 24, false, (.sl [] .nil), (.slice 27), false⟩
def ti49 : TI := ⟨1, 24, false, (.sl [] .nil), (.slice 3), false⟩
def ti52 : TI := ⟨12, 136, true, (.agg [(.sl [] .nil), (.bool false), (.int .i64 0), (.sl [] .nil), (.int .u32 0), (.bool false), (.int .u32 0), (.bool false), (.int .u32 0), (.bool false), (.sl [] .nil), (.sl [] .nil)]), (.struct [(0, 48), (1, 4), (2, 31), (11, 48)]), false⟩
def ti57 : TI := ⟨1, 8, false, (.int .i64 0), (.int .i64), false⟩
def ti61 : TI := ⟨3, 40, true, (.agg [(.int .i64 0), (.int .i64 0), (.sl [] .nil)]), (.struct [(0, 3), (1, 3), (2, 43)]), false⟩
def ti69 : TI := ⟨1, 8, false, (.int .u64 0), (.int .u64), false⟩
def ti74 : TI := ⟨1, 8, false, .nilp, .ptr, false⟩
def ti77 : TI := ⟨21, 240, true, (.agg [(.int .i64 0), (.int .i64 0), (.int .i64 0), (.sl [] .nil), (.bool false), (.int .i64 0), (.sl [] .nil), (.int .u32 0), (.bool false), (.int .u32 0), (.bool false), (.int .u32 0), (.bool false), (.sl [] .nil), (.sl [] .nil), (.int .i64 0), (.int .i64 0), (.sl [] .nil), (.sl [] .nil), (.int .i64 0), (.int .u8 0)]), (.struct [(0, 3), (1, 3), (2, 3), (3, 52), (15, 61), (18, 43), (19, 3), (20, 5)]), false⟩
def ti79 : TI := ⟨1, 24, false, (.sl [] .nil), (.slice 84), false⟩
def ti84 : TI := ⟨13, 144, true, (.agg [(.int .i64 0), (.sl [] .nil), (.bool false), (.int .i64 0), (.sl [] .nil), (.int .u32 0), (.bool false), (.int .u32 0), (.bool false), (.int .u32 0), (.bool false), (.sl [] .nil), (.sl [] .nil)]), (.struct [(0, 3), (1, 52)]), false⟩
def ti111 : TI := ⟨2, 32, true, (.agg [(.int .i64 0), (.sl [] .nil)]), (.struct [(0, 3), (1, 29)]), false⟩
def ti164 : TI := ⟨3, 24, true, (.agg [(.int .i64 0), (.int .i64 0), (.int .u32 0)]), (.struct [(0, 3), (1, 3), (2, 22)]), false⟩
def ti166 : TI := ⟨12, 136, true, (.agg [(.int .u32 0), (.int .u32 0), (.int .i64 0), (.int .u32 0), (.int .i64 0), (.sl [] .nil), (.int .u32 0), (.int .i64 0), (.int .i64 0), (.int .i64 0), (.sl [] .nil), (.sl [] .nil)]), (.struct [(0, 22), (1, 22), (2, 3), (3, 22), (4, 3), (5, 43), (6, 22), (7, 3), (8, 3), (9, 3), (10, 43), (11, 79)]), false⟩
def ti170 : TI := ⟨3, 24, true, (.agg [(.int .i64 0), (.int .i64 0), (.int .u32 0)]), (.struct [(0, 3), (1, 3), (2, 22)]), false⟩
def ti191 : TI := ⟨1, 24, false, (.sl [] .nil), (.slice 48), false⟩
def ti224 : TI := ⟨1, 24, true, (.agg [(.sl [] .nil)]), (.struct [(0, 43)]), false⟩
def ti226 : TI := ⟨1, 8, false, (.int .u64 0), (.int .u64), false⟩
def ti229 : TI := ⟨2, 32, true, (.agg [(.sl [] .nil), (.bool false)]), (.struct [(0, 43), (1, 4)]), false⟩
def ti231 : TI := ⟨1, 8, false, .mpn, (.map 3 4), false⟩
def ti233 : TI := ⟨4, 64, true, (.agg [(.int .i64 0), (.int .i64 0), (.sl [] .nil), (.sl [] .nil)]), (.struct [(0, 3), (1, 3), (2, 43), (3, 43)]), false⟩
def ti294 : TI := ⟨1, 8, false, (.int .i64 0), (.int .i64), false⟩
def ti323 : TI := ⟨1, 8, false, (.int .u64 0), (.int .u64), false⟩
def tiTree : Tr TI := (.nd (.nd (.nd (.nd (.nd (.nd (.nd .lf none (.nd .lf (some ti191) .lf)) (some ti31) .lf) none (.nd (.nd .lf (some ti79) .lf) none (.nd .lf (some ti111) .lf))) none (.nd (.nd .lf none (.nd .lf none (.nd .lf (some ti231) .lf))) none .lf)) (some ti3) (.nd (.nd (.nd (.nd .lf none (.nd (.nd .lf (some ti323) .lf) none .lf)) none .lf) none .lf) none (.nd (.nd .lf (some ti43) .lf) (some ti27) .lf))) none (.nd (.nd (.nd .lf none (.nd .lf (some ti49) .lf)) (some ti9) (.nd (.nd .lf none (.nd .lf none (.nd .lf (some ti233) .lf))) none (.nd .lf (some ti57) .lf))) (some ti5) (.nd (.nd (.nd (.nd .lf (some ti69) .lf) none (.nd .lf none (.nd .lf (some ti229) .lf))) none .lf) none (.nd (.nd (.nd .lf (some ti77) .lf) (some ti45) .lf) (some ti29) (.nd .lf (some ti61) .lf))))) none (.nd (.nd (.nd (.nd (.nd .lf none (.nd .lf none (.nd .lf (some ti224) .lf))) none (.nd .lf (some ti48) .lf)) none .lf) (some ti4) (.nd (.nd (.nd .lf none (.nd (.nd .lf (some ti164) .lf) none .lf)) none (.nd (.nd .lf (some ti84) .lf) (some ti52) .lf)) none (.nd .lf (some ti28) .lf))) none (.nd (.nd (.nd (.nd .lf none (.nd .lf none (.nd .lf (some ti226) .lf))) none .lf) none (.nd (.nd (.nd .lf (some ti74) .lf) none (.nd (.nd .lf (some ti170) .lf) none .lf)) none .lf)) none (.nd (.nd (.nd .lf none (.nd (.nd (.nd .lf (some ti294) .lf) (some ti166) .lf) none .lf)) (some ti22) .lf) none .lf))))
def tyOf : Types := fun t => tiTree.get t
theorem types_ok : treeAll (fun t ti => checkT Tryz.prog t ti) tiTree (fun m => m) = true := by kernel_rfl
end Go.AM
