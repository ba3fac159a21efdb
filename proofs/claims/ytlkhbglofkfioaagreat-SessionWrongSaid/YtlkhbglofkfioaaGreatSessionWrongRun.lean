/- SessionWrong: whatever the two numbers, true: they come to one of twelve runs, and each is reckoned by the kernel. -/
import Derived.Test.YtlkhbglofkfioaaGreatDz
import Derived.Test.YtlkhbglofkfioaaGreatC8
set_option linter.unusedVariables false
set_option linter.unusedSimpArgs false
set_option maxRecDepth 1000000
namespace Go.AM
open Go Go.Proofs
def within (n lo hi : Int) : Int := if n.tmod (hi - lo + 1) < 0 then lo + (n.tmod (hi - lo + 1) + hi - lo + 1) else lo + n.tmod (hi - lo + 1)
theorem within_bounds (n lo hi : Int) (h : lo ≤ hi) : lo ≤ within n lo hi ∧ within n lo hi ≤ hi := by
  have := tmod_bounds n (hi - lo + 1) (by omega)
  unfold within
  split <;> omega
theorem within_run (m : Nat) (n lo hi : Int) (h : Heap) (h0 : 0 ≤ lo) (h1 : lo ≤ hi) (h2 : hi ≤ 1000000000) : acall fetch own (m + 1) 41 [.int .i64 n, .int .i64 lo, .int .i64 hi] h = some (.int .i64 (within n lo hi), h) := by
  have hb := tmod_bounds n (hi - lo + 1) (by omega)
  have hne : ¬ (hi - lo + 1 = 0) := by omega
  have w1 : IntKind.i64.wrap (hi - lo) = hi - lo := wrap_in (by omega) (by omega)
  have w2 : IntKind.i64.wrap (hi - lo + 1) = hi - lo + 1 := wrap_in (by omega) (by omega)
  have w3 : IntKind.i64.wrap (n.tmod (hi - lo + 1) + hi) = n.tmod (hi - lo + 1) + hi := wrap_in (by omega) (by omega)
  have w4 : IntKind.i64.wrap (n.tmod (hi - lo + 1) + hi - lo) = n.tmod (hi - lo + 1) + hi - lo := wrap_in (by omega) (by omega)
  have w5 : IntKind.i64.wrap (n.tmod (hi - lo + 1) + hi - lo + 1) = n.tmod (hi - lo + 1) + hi - lo + 1 := wrap_in (by omega) (by omega)
  have e1 : own 41 = none := rfl
  have e2 : fetch 41 = some a41 := rfl
  unfold acall
  rw [e1, e2]
  by_cases hs : n.tmod (hi - lo + 1) < 0
  · have w6 : IntKind.i64.wrap (lo + (n.tmod (hi - lo + 1) + hi - lo + 1)) = lo + (n.tmod (hi - lo + 1) + hi - lo + 1) := wrap_in (by omega) (by omega)
    simp [a41, acode, aops, astep, aop, wanted, ev, tput, argsIn, tget_set, binOp, intOp, w1, w2, w3, w4, w5, w6, hne, hs, resAll, resOf, tupOf, freeze, within]
    rfl
  · have w6 : IntKind.i64.wrap (lo + n.tmod (hi - lo + 1)) = lo + n.tmod (hi - lo + 1) := wrap_in (by omega) (by omega)
    simp [a41, acode, aops, astep, aop, wanted, ev, tput, argsIn, tget_set, binOp, intOp, w1, w2, w6, hne, hs, resAll, resOf, tupOf, freeze, within]
    rfl
theorem within_part {m k a b c src : Nat} {lo hi v : Int} {t : Tmps} {h : Heap} (ht : tget t src = .int .i64 v) (hab : a ≠ b) (h0 : 0 ≤ lo) (h1 : lo ≤ hi) (h2 : hi ≤ 1000000000) :
    acode (acall fetch own (m + 1)) k (.reg [⟨some a, .mov (.t src), none, 0⟩, ⟨some b, .call 41 [.t a, .c (.int .i64 lo), .c (.int .i64 hi)], none, 0⟩, ⟨some c, .mov (.t b), none, 0⟩]) t h =
      some (.normal, ((t.set a (.int .i64 v)).set b (.int .i64 (within v lo hi))).set c (.int .i64 (within v lo hi)), h) := by
  simp [acode, aops, astep, aop, wanted, ev, evs, tput, tget_set, ht, within_run m v lo hi h h0 h1 h2]
/-! ### the parts -/
def isTrue : AV → Bool
  | .bool b => b
  | _ => false
def went : Outc → Bool
  | some (.normal, _, _) => true
  | _ => false
def tmpsOf : Outc → Tmps
  | some (_, t, _) => t
  | none => .lf
def heapOf : Outc → Heap
  | some (_, _, h) => h
  | none => Heap.none_
theorem went_eq {r : Outc} (h : went r = true) : r = some (.normal, tmpsOf r, heapOf r) := by
  unfold went at h
  split at h
  · rfl
  · cases h
def came (d : Nat) : Outc → Bool
  | some (.ret, t, _) => isTrue (tget t d)
  | _ => false
theorem came_eq {r : Outc} {d : Nat} (h : came d r = true) : r = some (.ret, tmpsOf r, heapOf r) ∧ tget (tmpsOf r) d = .bool true := by
  unfold came at h
  split at h
  · rename_i t h'
    refine ⟨rfl, ?_⟩
    show tget t d = _
    unfold isTrue at h
    split at h
    · rename_i b hb; rw [hb, h]
    · cases h
  · cases h
abbrev cl : CallF := acall fetch own 100
def ps : List ACode := parts a10.code
def o1 (x y : Int) : Outc := runParts cl 100 (ps.take 4) (argsIn [.int .i64 x, .int .i64 y] 0 .lf) Heap.none_
def t1 (x y r : Int) : Tmps := (((tmpsOf (o1 x y)).set 24 (.int .i64 x)).set 25 (.int .i64 r)).set 7 (.int .i64 r)
def o2 (x y r : Int) : Outc := runParts cl 100 ((ps.drop 5).take 3) (t1 x y r) (heapOf (o1 x y))
def t2 (x y r k : Int) : Tmps := (((tmpsOf (o2 x y r)).set 43 (.int .i64 y)).set 44 (.int .i64 k)).set 8 (.int .i64 k)
def o3 (x y r k : Int) : Outc := runParts cl 100 (ps.drop 9) (t2 x y r k) (heapOf (o2 x y r))
theorem r1 (x y : Int) : went (o1 x y) = true := by kernel_rfl
theorem g1 (x y : Int) : tget (tmpsOf (o1 x y)) 0 = .int .i64 x := by kernel_rfl
theorem r2_0 (x y : Int) : went (o2 x y 0) = true := by kernel_rfl
theorem r2_1 (x y : Int) : went (o2 x y 1) = true := by kernel_rfl
theorem r2_2 (x y : Int) : went (o2 x y 2) = true := by kernel_rfl
theorem g2_0 (x y : Int) : tget (tmpsOf (o2 x y 0)) 1 = .int .i64 y := by kernel_rfl
theorem g2_1 (x y : Int) : tget (tmpsOf (o2 x y 1)) 1 = .int .i64 y := by kernel_rfl
theorem g2_2 (x y : Int) : tget (tmpsOf (o2 x y 2)) 1 = .int .i64 y := by kernel_rfl
theorem r3_0_4 (x y : Int) : came 4 (o3 x y 0 4) = true := by kernel_rfl
theorem r3_0_5 (x y : Int) : came 4 (o3 x y 0 5) = true := by kernel_rfl
theorem r3_0_6 (x y : Int) : came 4 (o3 x y 0 6) = true := by kernel_rfl
theorem r3_0_7 (x y : Int) : came 4 (o3 x y 0 7) = true := by kernel_rfl
theorem r3_1_4 (x y : Int) : came 4 (o3 x y 1 4) = true := by kernel_rfl
theorem r3_1_5 (x y : Int) : came 4 (o3 x y 1 5) = true := by kernel_rfl
theorem r3_1_6 (x y : Int) : came 4 (o3 x y 1 6) = true := by kernel_rfl
theorem r3_1_7 (x y : Int) : came 4 (o3 x y 1 7) = true := by kernel_rfl
theorem r3_2_4 (x y : Int) : came 4 (o3 x y 2 4) = true := by kernel_rfl
theorem r3_2_5 (x y : Int) : came 4 (o3 x y 2 5) = true := by kernel_rfl
theorem r3_2_6 (x y : Int) : came 4 (o3 x y 2 6) = true := by kernel_rfl
theorem r3_2_7 (x y : Int) : came 4 (o3 x y 2 7) = true := by kernel_rfl
theorem ps_split : ps = ps.take 4 ++ (ps.drop 4).take 1 ++ (ps.drop 5).take 3 ++ (ps.drop 8).take 1 ++ ps.drop 9 := by kernel_rfl
theorem w1_is : (ps.drop 4).take 1 = [.reg [⟨some 24, .mov (.t 0), none, 0⟩, ⟨some 25, .call 41 [.t 24, .c (.int .i64 0), .c (.int .i64 2)], none, 0⟩, ⟨some 7, .mov (.t 25), none, 0⟩]] := by kernel_rfl
theorem w2_is : (ps.drop 8).take 1 = [.reg [⟨some 43, .mov (.t 1), none, 0⟩, ⟨some 44, .call 41 [.t 43, .c (.int .i64 4), .c (.int .i64 7)], none, 0⟩, ⟨some 8, .mov (.t 44), none, 0⟩]] := by kernel_rfl
end Go.AM
