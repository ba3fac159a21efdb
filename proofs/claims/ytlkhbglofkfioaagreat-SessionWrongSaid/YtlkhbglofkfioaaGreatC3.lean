/- Tables that are trees, and what is known of all that stands in them. -/
import Derived.Test.YtlkhbglofkfioaaGreatC1
set_option linter.unusedVariables false
namespace Go.AM
open Go
def treeAll {α : Type} (p : Nat → α → Bool) : Tr α → (Nat → Nat) → Bool
  | .lf, _ => true
  | .nd l v r, f => (match v with | some x => p (f 0) x | none => true) && treeAll p l (fun m => f (2 * m + 1)) && treeAll p r (fun m => f (2 * m + 2))
def TreeP {α : Type} (p : Nat → α → Prop) : Tr α → (Nat → Nat) → Prop
  | .lf, _ => True
  | .nd l v r, f => TreeP p l (fun m => f (2 * m + 1)) ∧ (∀ x, v = some x → p (f 0) x) ∧ TreeP p r (fun m => f (2 * m + 2))
theorem Tr.get_succ {α : Type} (l r : Tr α) (v : Option α) (k : Nat) : (Tr.nd l v r).get (k + 1) = if k % 2 = 0 then l.get (k / 2) else r.get (k / 2) := by
  simp only [Tr.get]
  by_cases h : k % 2 = 0
  · rw [if_pos h, h]; rfl
  · rw [if_neg h]
    have : Nat.beq (k % 2) 0 = false := by rw [Bool.eq_false_iff]; intro hb; exact h (Nat.eq_of_beq_eq_true hb)
    rw [this]; rfl
theorem TreeP.get {α : Type} {p : Nat → α → Prop} : ∀ {t : Tr α} {f : Nat → Nat}, TreeP p t f → ∀ {k : Nat} {x : α}, t.get k = some x → p (f k) x
  | .lf, f, _, k, x, h => by rw [Tr.get_lf] at h; cases h
  | .nd l v r, f, H, k, x, h => by
    obtain ⟨h1, h2, h3⟩ := H
    cases k with
    | zero => exact h2 x h
    | succ k =>
      rw [Tr.get_succ] at h
      split at h
      · have := h1.get h
        rwa [show 2 * (k / 2) + 1 = k + 1 by omega] at this
      · have := h3.get h
        rwa [show 2 * (k / 2) + 2 = k + 1 by omega] at this
theorem treeAll_ok {α : Type} {p : Nat → α → Bool} : ∀ {t : Tr α} {f : Nat → Nat}, treeAll p t f = true → TreeP (fun k x => p k x = true) t f
  | .lf, f, _ => trivial
  | .nd l v r, f, h => by
    simp only [treeAll, Bool.and_eq_true] at h
    refine ⟨treeAll_ok h.1.2, fun x hx => ?_, treeAll_ok h.2⟩
    have := h.1.1
    rw [hx] at this
    exact this
/-- A function of the program, and its translation. -/
def Has (P : Program) (T : Types) (f : Nat) (fn : AFunc) : Prop := ∃ an gf, P.funcs[f]? = some gf ∧ trFunc T an gf = some fn ∧ (gf.name == "runtime.NumGoroutine") = false
end Go.AM
