/- '==' of two prefixes, and prefixes as keys. -/
import Derived.Test.YtlkhbglofkfioaaGreatC6
import Derived.Laws.StructEq
set_option linter.unusedVariables false
set_option linter.unusedSimpArgs false
set_option maxRecDepth 100000
namespace Go.AM
open Go Go.Proofs
theorem run_checkPlain {P : Program} {ty : TypeId} {k : IntKind} (b : Bool) (v : Value) (n : Nat) (w : World) (h : P.underlying ty = some (.int k)) : (Instr.checkKey b (n + 1) ty v).run P w = .ok () w := by
  rw [Instr.checkKey]
  simp [run_underlying h]
theorem run_checkPair {P : Program} {t : TypeId} {f1 f2 : Field} {k1 k2 : IntKind} (ht : P.underlying t = some (.struct #[f1, f2])) (h1 : P.underlying f1.type = some (.int k1)) (h2 : P.underlying f2.type = some (.int k2)) {xs : Array Value} {b : Bool} {w : World} {a c : Value} (p1 : (part f1.type xs f1.offset).run P w = .ok a w) (p2 : (part f2.type xs f2.offset).run P w = .ok c w) (n : Nat) :
    (Instr.checkKey b (n + 1 + 1) t (.agg xs)).run P w = .ok () w := by
  rw [Instr.checkKey]
  have q1 := run_checkPlain b a n w h1
  have q2 := run_checkPlain b c n w h2
  by_cases n1 : f1.name = "_" <;> by_cases n2 : f2.name = "_" <;> simp [run_underlying ht, n1, n2, p1, p2, q1, q2]
theorem pair_cells {C : Ctx} {k1 k2 : IntKind} {x y : Int} {xs : Array Value} (h : VR C (.agg [.int k1 x, .int k2 y]) (.agg xs)) : xs = #[.int k1 x, .int k2 y] := by
  cases h with
  | agg _ _ hs hv =>
    obtain ⟨u, v, rfl, h1, h2⟩ := VRs.two_inv (C := C) (x := .int k1 x) (y := .int k2 y) (us := xs) ⟨hs, hv⟩
    rw [VR.int_inv h1, VR.int_inv h2]
theorem eqFact_pair {P : Program} {t : TypeId} {f1 f2 : Field} (ht : P.underlying t = some (.struct #[f1, f2])) (hp : P.stoodInHeld t = false) (hg : P.eqGuardType P.depth t = false) (e1 : f1.offset = 0) (e2 : f2.offset = 1) (n1 : (f1.name == "_") = false) (n2 : (f2.name == "_") = false)
    (h1 : P.underlying f1.type = some (.int .u32)) (h2 : P.underlying f2.type = some (.int .i64)) (a1 : ∀ w, (isAgg f1.type).run P w = .ok false w) (a2 : ∀ w, (isAgg f2.type).run P w = .ok false w) : EqFact P t := by
  intro C cs ds xs ys r hs hx hy
  unfold sameCells at hs
  split at hs
  · rename_i x y x' y'
    cases hs
    have hx := pair_cells hx
    have hy := pair_cells hy
    subst hx; subst hy
    have p1 : ∀ (a b : Value) (w : World), (part f1.type #[a, b] f1.offset).run P w = .ok a w := fun a b w => by simp [part, a1, e1]
    have p2 : ∀ (a b : Value) (w : World), (part f2.type #[a, b] f2.offset).run P w = .ok b w := fun a b w => by simp [part, a2, e2]
    have n1' : ¬ f1.name = "_" := by simpa using n1
    have n2' : ¬ f2.name = "_" := by simpa using n2
    have hf : P.fieldsOf t = #[f1, f2] := by unfold Program.fieldsOf; rw [ht]
    refine ⟨fun w => ?_, hg, fun w => run_checkPair ht h1 h2 (p1 _ _ w) (p2 _ _ w) 9998, fun w => run_checkPair ht h1 h2 (p1 _ _ w) (p2 _ _ w) 9998⟩
    show (Op.equalIn (9999 + 1) t _ _).run P w = _
    rw [run_equalIn_struct w 9999 t _ _ (by rw [hf]; exact ht) hp, hf]
    have q1 : (Op.equalIn 9999 f1.type (.int .u32 x) (.int .u32 x')).run P w = .ok (x == x') w := run_equalIn_int (P := P) w 9998 f1.type .u32 .u32 x x' h1
    have q2 : (Op.equalIn 9999 f2.type (.int .i64 y) (.int .i64 y')).run P w = .ok (y == y') w := run_equalIn_int (P := P) w 9998 f2.type .i64 .i64 y y' h2
    generalize (x == x') = r1 at q1 ⊢
    generalize (y == y') = r2 at q2 ⊢
    simp only [Op.eqFields, n1', n2', ne_eq, not_false_eq_true, if_true, Sem.run_bind, p1, p2, Result.andThen_ok, q1, q2, Sem.run_ite, Sem.run_pure]
    cases r1 <;> cases r2 <;> simp [p2, q2]
  · cases hs
end Go.AM
