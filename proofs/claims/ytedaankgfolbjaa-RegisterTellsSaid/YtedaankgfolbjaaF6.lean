/- Registers: the law that asks what it calls. -/
import Derived.Test.YtedaankgfolbjaaG3
set_option linter.unusedVariables false
set_option linter.unusedSimpArgs false
namespace Go.Proofs.Av
open Go.Proofs
abbrev fA : ByteArray := ⟨#[97]⟩
abbrev fB : ByteArray := ⟨#[98]⟩
abbrev fZ : ByteArray := ⟨#[122]⟩
theorem aw1 : ofFacts [regAt 3 3 fB, regAt 1 3 fA, regAt 2 3 fB, regAt 9 2 fZ] 3 fA = [regAt 3 3 fB, regAt 1 3 fA, regAt 2 3 fB] := by decide
theorem aw5 : regAll [regAt 3 3 fB, regAt 1 3 fA, regAt 2 3 fB] = [fA, fB, fB] :=
  regVal_uniq (q := [regAt 1 3 fA, regAt 2 3 fB, regAt 3 3 fB]) ((regSort_perm _).trans (by decide)) (regSort_up _) (by unfold RegUp; decide)
theorem aw6 : sortStr [fA, fB, fB] = [fA, fB, fB] := by
  have h1 : ([97] : List UInt8) ≤ [98] := by decide
  have h2 : ([98] : List UInt8) ≤ [98] := by decide
  simp [sortStr, List.mergeSort, List.MergeSort.Internal.splitInTwo, List.merge, ByteArray.toList_eq, h1, h2]
  decide
theorem aw4 : packStr [fA, fB, fB] = [fA, fB] := by
  simp [packStr, ByteArray.toList_eq, ofBytes]
  decide
theorem aw7 : regElements [regAt 3 3 fB, regAt 1 3 fA, regAt 2 3 fB] = [fA, fB] := by unfold regElements; rw [aw5, aw6, aw4]
theorem aw8 : regLast [regAt 3 3 fB, regAt 1 3 fA, regAt 2 3 fB] = (fB, true) := by decide
theorem aw9 : (ofFacts [regAt 3 3 fB, regAt 1 3 fA, regAt 2 3 fB, regAt 9 2 fZ] 0 fA).length = 4 := by decide
theorem aw10 : (ofFacts [regAt 3 3 fB, regAt 1 3 fA, regAt 2 3 fB, regAt 9 2 fZ] 0 fB).length = 0 := by decide
set_option maxHeartbeats 1000000 in
theorem c92 : PureC Try.prog 92 (fn0 s92) := by
  refine pure0 E92ok mixed Try.func92 rfl rfl ?_
  simp [Try.f92, s181, s95, s93, s99, s97, t97, s34, lim, aw1, aw5, aw7, aw8, aw9, aw10]
  rfl
theorem n92 : Enters Try.prog 92 := Go.Proofs.enters_of Try.func92 (by kernel_rfl) rfl
end Go.Proofs.Av
