/- From the abstract machine's run to the model's call. -/
import Derived.Test.YtlkhbglofkfioaaGreatC2
import Derived.Below
set_option linter.unusedVariables false
set_option linter.unusedSimpArgs false
set_option maxRecDepth 100000
namespace Go.AM
open Go Go.Proofs Go.RowKit
/-- Nothing is told of memory. -/
def Ctx.none_ (w : World) : Ctx := ⟨fun _ => none, fun _ => False, fun _ => 0, w, fun _ => False⟩
def Heap.none_ : Heap := ⟨.lf, 0⟩
theorem Sim.none_ (w : World) : Sim (Ctx.none_ w) Heap.none_ where
  ver id := by unfold verOf Heap.get Heap.none_; rw [Tr.get_lf]; rfl
  fresh id _ := Tr.get_lf id
  obj id := by
    show ObjOk _ id (Tr.get .lf id)
    rw [Tr.get_lf]; rfl
  apart i j li lj _ hi := by cases hi
  bound b hb := hb.elim
  held id hh := hh.elim
theorem Trans.below {w : World} {C : Ctx} (T : Trans (Ctx.none_ w) C) : Below w.heap.size w C.w := ⟨T.os, T.tape, T.output, T.size, fun k hk => (T.keep k hk fun h => h).1⟩
theorem calls_of_run {P : Program} {T : Types} {fetch : Nat → Option AFunc} {own : Nat → Option (List AV → Heap → Option (AV × Heap))} (M : Machine P T fetch own) {f n : Nat} {gf : Func} {args : List AV} {us : Array Value} {w : World} {v : AV} {h' : Heap}
    (hf : P.funcs[f]? = some gf) (hb : gf.body.isNone = false) (hn : (gf.name == "runtime.NumGoroutine") = false) (hus : VRs (Ctx.none_ w) args us) (hrun : acall fetch own n f args Heap.none_ = some (v, h')) :
    Calls P f us w fun e w' => ∃ u C, e = .returned u ∧ w' = C.w ∧ Trans (Ctx.none_ w) C ∧ Sim C h' ∧ VR C v u := by
  have h1 := acall_ok M n f args Heap.none_ v h' hrun (Ctx.none_ w) us (Sim.none_ w) hus (fun u w' => ∃ C, w' = C.w ∧ Trans (Ctx.none_ w) C ∧ Sim C h' ∧ VR C v u) fun C u T S hv => ⟨C, rfl, T, S, hv⟩
  have hne : ¬ gf.name = "runtime.NumGoroutine" := by simpa using hn
  have hcall : (callFunc f us).run P (Ctx.none_ w).w = .ok (.enter f us) w := by
    show (callFunc f us).run P w = _
    have hb' : ¬ gf.body = none := fun e => by rw [e] at hb; cases hb
    simp [callFunc, hf, hne, hb']
  unfold GoesTo at h1
  rw [hcall] at h1
  refine Calls.mono h1 fun e w' he => ?_
  cases e with
  | returned u => obtain ⟨C, h2⟩ := he; exact ⟨u, C, rfl, h2⟩
  | panicked c => exact he.elim
  | outgrown => exact he.elim
theorem calls_true {P : Program} {T : Types} {fetch : Nat → Option AFunc} {own : Nat → Option (List AV → Heap → Option (AV × Heap))} (M : Machine P T fetch own) {f n : Nat} {gf : Func} {args : List AV} {us : Array Value} {w : World} {h' : Heap}
    (hf : P.funcs[f]? = some gf) (hb : gf.body.isNone = false) (hn : (gf.name == "runtime.NumGoroutine") = false) (hus : VRs (Ctx.none_ w) args us) (hrun : acall fetch own n f args Heap.none_ = some (.bool true, h')) :
    Calls P f us w fun e w' => e = .returned (.bool true) ∧ Below w.heap.size w w' := by
  refine Calls.mono (calls_of_run M hf hb hn hus hrun) fun e w' ⟨u, C, he, hw, T, _, hv⟩ => ?_
  rw [VR.bool_inv hv] at he
  exact ⟨he, hw ▸ T.below⟩
end Go.AM
