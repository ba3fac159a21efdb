/- Runs, part by part. -/
import Derived.Test.YtlkhbglofkfioaaGreatC7
set_option linter.unusedVariables false
namespace Go.AM
open Go Go.Proofs
theorem wrap_in {x : Int} (h1 : -9223372036854775808 ≤ x) (h2 : x ≤ 9223372036854775807) : IntKind.i64.wrap x = x := by
  rw [IntKind.wrap_i64]; omega
theorem tget_set (t : Tmps) (d : Nat) (v : AV) (r : Nat) : tget (t.set d v) r = if r = d then v else tget t r := by
  unfold tget; rw [Tr.get_set]; split <;> rfl
theorem tmod_bounds (n m : Int) (h : 0 < m) : -m < n.tmod m ∧ n.tmod m < m := ⟨Int.lt_tmod_of_pos n h, Int.tmod_lt_of_pos n h⟩
/-- A row of codes, one behind the other. -/
def parts : ACode → List ACode
  | .seq a b => a :: parts b
  | c => [c]
abbrev Outc := Option (AExit × Tmps × Heap)
def goOn (r : Outc) (k : Tmps → Heap → Outc) : Outc := r.bind fun p => match p.1 with
  | .normal => k p.2.1 p.2.2
  | _ => some p
def runParts (call : CallF) (n : Nat) : List ACode → Tmps → Heap → Outc
  | [], t, h => some (.normal, t, h)
  | c :: l, t, h => goOn (acode call n c t h) (runParts call n l)
theorem goOn_normal (r : Outc) : goOn r (fun t h => some (.normal, t, h)) = r := by
  cases r with
  | none => rfl
  | some p => obtain ⟨x, t, h⟩ := p; cases x <;> rfl
theorem parts_run (call : CallF) (n : Nat) : ∀ (c : ACode) (t : Tmps) (h : Heap), acode call n c t h = runParts call n (parts c) t h
  | .seq a b, t, h => by
    show (acode call n a t h).bind _ = goOn (acode call n a t h) (runParts call n (parts b))
    unfold goOn
    cases acode call n a t h with
    | none => rfl
    | some p => obtain ⟨x, t, h⟩ := p; cases x <;> first | rfl | exact parts_run call n b t h
  | .skip, t, h => (goOn_normal _).symm
  | .reg _, t, h => (goOn_normal _).symm
  | .dreg _ _, t, h => (goOn_normal _).symm
  | .cond _ _ _, t, h => (goOn_normal _).symm
  | .block _ _, t, h => (goOn_normal _).symm
  | .loop _, t, h => (goOn_normal _).symm
  | .exit _, t, h => (goOn_normal _).symm
  | .ret, t, h => (goOn_normal _).symm
theorem goOn_assoc (r : Outc) (k l : Tmps → Heap → Outc) : goOn (goOn r k) l = goOn r fun t h => goOn (k t h) l := by
  cases r with
  | none => rfl
  | some p => obtain ⟨x, t, h⟩ := p; cases x <;> rfl
theorem runParts_append (call : CallF) (n : Nat) : ∀ (l m : List ACode) (t : Tmps) (h : Heap), runParts call n (l ++ m) t h = goOn (runParts call n l t h) (runParts call n m)
  | [], m, t, h => rfl
  | c :: l, m, t, h => by
    show goOn (acode call n c t h) (runParts call n (l ++ m)) = goOn (goOn (acode call n c t h) (runParts call n l)) (runParts call n m)
    rw [goOn_assoc]
    congr 1
    funext t h
    exact runParts_append call n l m t h
/-- A function's run, part by part. -/
theorem acall_parts {fetch : Nat → Option AFunc} {own : Nat → Option (List AV → Heap → Option (AV × Heap))} {f n : Nat} {fn : AFunc} {args : List AV} {h h' : Heap} {x : AExit} {t' : Tmps} {vs : List AV} {r : AV × Heap} (ho : own f = none) (hf : fetch f = some fn) (hn : Nat.ble args.length fn.n = true)
    (hr : runParts (acall fetch own n) n (parts fn.code) (argsIn args 0 .lf) h = some (x, t', h')) (hx : ∀ i, x ≠ .exit i) (hv : resAll t' h' fn.res = some vs) (he : freeze fn.fz (tupOf vs) h' = r) : acall fetch own (n + 1) f args h = some r := by
  unfold acall
  rw [ho]
  simp only [hf, Option.bind_some, hn, cond_true]
  rw [parts_run, hr]
  cases x with
  | exit i => exact absurd rfl (hx i)
  | normal => simp only [Option.bind_some, hv, he]
  | ret => simp only [Option.bind_some, hv, he]
end Go.AM
