/- What is not run but reckoned: new bytes of whatever content. -/
import Derived.Test.YtlkhbglofkfioaaGreatChecked
import Derived.Test.YtlkhbglofkfioaaGreatC3
import Derived.Lib.MakeNoZero
set_option linter.unusedVariables false
set_option linter.unusedSimpArgs false
set_option maxRecDepth 100000
namespace Go.AM
open Go Go.Proofs
theorem digits_int : ∀ (n t : Nat) (acc : Array Value), (∀ (i : Nat) (v : Value), acc[i]? = some v → ∃ k, v = .int .u8 k) → ∀ (i : Nat) (v : Value), (Extern.BytealgMakeNoZero.digits n t acc)[i]? = some v → ∃ k, v = .int .u8 k
  | 0, _, acc, h => h
  | n + 1, t, acc, h => by
    rw [Extern.BytealgMakeNoZero.digits]
    refine digits_int n _ _ fun i v hi => ?_
    rw [Array.getElem?_push] at hi
    split at hi
    · cases hi; exact ⟨_, rfl⟩
    · exact h i v hi
theorem findNext288 : Extern.findNext Tryz.f288 = none := by kernel_rfl
theorem find288 : Extern.find Tryz.f288 = some (Extern.BytealgMakeNoZero.makeNoZero #[3] #[43]) := by kernel_rfl
theorem run_makeNoZero' {P : Program} (w : World) (ps : Array TypeId) (t e : TypeId) (ht : P.underlying t = some (.slice e)) (n : Nat) (hn : n ≤ 281474976710656) :
    ∃ cs : Array Value, (Extern.BytealgMakeNoZero.makeNoZero ps #[t] #[.int .i64 n]).run P w = .ok (.slice (some ⟨w.heap.size, 0, none⟩) n cs.size) (w.drew.drew.alloc (.cells cs e)) ∧ n ≤ cs.size ∧ ∀ (i : Nat) (v : Value), cs[i]? = some v → ∃ k, v = .int .u8 k := by
  have hdef : Extern.BytealgMakeNoZero.makeNoZero ps #[t] #[.int .i64 n] =
      (do
        let .slice elem ← underlying t | stuck "bytealg.MakeNoZero: slice type expected"
        if (n : Int) < 0 || (n : Int) > 2 ^ 48 then runtimePanic (.error "makeslice: len out of range")
        let cap ← choose (.appendCap (n : Int).toNat 0 elem)
        askRoom cap
        let bytes ← choose (.extern "internal/bytealg.MakeNoZero.bytes" 0)
        let a ← newRow elem (Extern.BytealgMakeNoZero.digits cap bytes #[])
        pure (.slice (some a) (n : Int).toNat cap)) := rfl
  refine ⟨Extern.BytealgMakeNoZero.digits (grownCap w n 0 e) ((Question.extern "internal/bytealg.MakeNoZero.bytes" 0).cut (w.tape (w.drawn + 1) (.extern "internal/bytealg.MakeNoZero.bytes" 0))) #[], ?_, ?_, ?_⟩
  · rw [hdef]
    have h1 : ¬ (n : Int) < 0 := by omega
    have h2 : ¬ (281474976710656 : Int) < (n : Int) := by omega
    simp [run_underlying ht, h1, h2, Question.forced, newRow, Lib.size_digits, grownCap]
  · rw [Lib.size_digits]
    simpa using grownCap_ge w n 0 e
  · exact digits_int _ _ _ fun i v h => by simp at h
def most48 : Nat := 281474976710656
def own288 : List AV → Heap → Option (AV × Heap)
  | [.int .i64 (.ofNat n)], h => bif Nat.ble n most48 then some (.ob h.next 1 1 0 n, h.push ⟨.arr 1 (List.replicate n .wild) false, 1, 0⟩) else none
  | _, _ => none
/-- What is asked of what is reckoned. -/
def OwnGood (P : Program) (f : FuncId) (g : List AV → Heap → Option (AV × Heap)) : Prop :=
  (∀ args h v h', g args h = some (v, h') → Fresh h → Later h h') ∧
  ∀ (args : List AV) (h : Heap) (v : AV) (h' : Heap), g args h = some (v, h') → ∀ (C : Ctx) (us : Array Value), Sim C h → VRs C args us →
    ∀ (K : Value → World → Prop), (∀ C' u, Trans C C' → Sim C' h' → VR C' v u → K u C'.w) → GoesTo P f us C.w K
theorem VRs.one_inv {C : Ctx} {x : AV} {us : Array Value} (H : VRs C [x] us) : ∃ u, us = #[u] ∧ VR C x u := by
  have h1 := H.1
  have h2 : 0 < us.size := by rw [h1]; exact Nat.zero_lt_one
  refine ⟨us[0], ?_, H.2 0 x _ rfl (Array.getElem?_eq_getElem h2)⟩
  apply Array.ext
  · rw [h1]; rfl
  · intro i hi hj
    have : i = 0 := by simp at hj; exact hj
    subst this; rfl
theorem own288_good : OwnGood Tryz.prog 288 own288 := by
  constructor
  · intro args h v h' hv hf
    unfold own288 at hv
    split at hv
    · rename_i n
      cases hb : Nat.ble n most48 with
      | false => rw [hb] at hv; cases hv
      | true => rw [hb] at hv; cases hv; exact Later.push hf _
    · cases hv
  · intro args h v h' hv C us S hus K hK
    unfold own288 at hv
    split at hv
    · rename_i n
      cases hb : Nat.ble n most48 with
      | false => rw [hb] at hv; cases hv
      | true =>
        rw [hb] at hv
        cases hv
        have hn := Nat.le_of_ble_eq_true hb
        unfold most48 at hn
        clear hb
        obtain ⟨u, hus1, hu⟩ := hus.one_inv
        have hu1 := VR.int_inv hu
        subst hu1
        subst hus1
        have hsl : Tryz.prog.underlying 43 = some (.slice 5) := Tryz.underlying43
        obtain ⟨cs, hrun, hle, hint⟩ := run_makeNoZero' (P := Tryz.prog) C.w #[3] 43 5 hsl n hn
        have hone : ∀ i, i < cs.size → ∃ k, cs[i]? = some (.int .u8 k) := fun i hi => by
          obtain ⟨k, hk⟩ := hint i cs[i] (Array.getElem?_eq_getElem hi)
          exact ⟨k, by rw [Array.getElem?_eq_getElem hi, hk]⟩
        have hsz : sized 1 (List.replicate n AV.wild) = true := sized_replicate rfl rfl n
        have hrow : RowOf (C.at_ C.w.drew.drew) 1 (List.replicate n AV.wild) cs 0 := by
          intro i j e x v hi hj hv
          have he : e = .wild := (List.mem_replicate.1 (List.mem_of_getElem? hi)).2
          subst he
          cases j with
          | zero =>
            simp [AV.cells] at hj
            subst hj
            obtain ⟨k, hk⟩ := hint _ v hv
            subst hk
            exact .wild _ _
          | succ j => simp [AV.cells] at hj
        have T1 := Trans.same (C := C) (w := C.w.drew.drew) ⟨rfl, rfl, rfl, rfl⟩
        have S1 := S.same (w := C.w.drew.drew) ⟨rfl, rfl, rfl, rfl⟩
        obtain ⟨T2, S2, hv2⟩ := S1.newArr 1 (List.replicate n AV.wild) cs 5 n cs.size hsz hrow (by simpa using hle) hle (by simp)
        simp only [Int.ofNat_eq_natCast] at hu hus ⊢
        have hcall : (callFunc 288 #[.int .i64 (n : Int)]).run Tryz.prog C.w = .ok (.value (.slice (some ⟨C.w.heap.size, 0, none⟩) n cs.size)) (C.w.drew.drew.alloc (.cells cs 5)) := by
          have hb : Tryz.f288.body = none := rfl
          have hne : ¬ Tryz.f288.name = "runtime.NumGoroutine" := by decide
          simp [callFunc, Tryz.func288, hb, hne, findNext288, find288, hrun]
        unfold GoesTo
        rw [hcall]
        exact hK _ _ (T1.trans T2) S2 hv2
    · cases hv
end Go.AM
