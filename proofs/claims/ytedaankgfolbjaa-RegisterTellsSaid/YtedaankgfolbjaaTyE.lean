/- The types whose values the program holds one against the other. -/
import Derived.Test.YtedaankgfolbjaaTy
import Derived.Test.YtedaankgfolbjaaAv24
import Derived.Test.YtedaankgfolbjaaAv17
set_option linter.unusedVariables false
set_option linter.unusedSimpArgs false
namespace Go.Proofs.Av
open Go.Proofs

abbrev eqs : List TypeId := [23, 25, 76, 111]
theorem eqOk_23 : EqOk Try.prog 23 [.int .i64 0, .int .i64 0] := eqOk (m := 2) (by kernel_rfl) (by decide) (by kernel_rfl) (by kernel_rfl)
theorem eqOk_25 : EqOk Try.prog 25 [.int .i64 0, .int .i64 0, .int .i64 0] := eqOk (m := 2) (by kernel_rfl) (by decide) (by kernel_rfl) (by kernel_rfl)
theorem eqOk_76 : EqOk Try.prog 76 (List.replicate 16 (.int .i64 0)) := eqOk (m := 2) (by kernel_rfl) (by decide) (by kernel_rfl) (by kernel_rfl)
theorem eqOk_111 : EqOk Try.prog 111 [.int .i64 0, .int .i64 0, .int .i64 0, .int .i64 0, .int .i64 0, .int .i64 0, .string ⟨#[]⟩, .string ⟨#[]⟩] := eqOk (m := 3) (by kernel_rfl) (by decide) (by kernel_rfl) (by kernel_rfl)
theorem eqsOk : ∀ t ∈ eqs, ∀ i, ty t = some i → EqOk Try.prog t i.zero := by
  intro t ht i hi
  simp only [eqs, List.mem_cons, List.not_mem_nil, or_false] at ht
  rcases ht with rfl | rfl | rfl | rfl
  · cases hi; exact eqOk_23
  · cases hi; exact eqOk_25
  · cases hi; exact eqOk_76
  · cases hi; exact eqOk_111

/-- What is called, and what is known of it. -/
abbrev En (ps : List (FuncId × (List PV → Option PV))) (hs : List (FuncId × HFn)) : Env := mkE ty eqs ps hs
theorem En_ok {ps : List (FuncId × (List PV → Option PV))} {hs : List (FuncId × HFn)} (hps : ∀ q ∈ ps, PureC Try.prog q.1 q.2 ∧ Enters Try.prog q.1) (hhs : ∀ q ∈ hs, HeapC Try.prog q.1 q.2 ∧ Enters Try.prog q.1 ∧ HFrame q.2) : EnvOk Try.prog (En ps hs) :=
  mkE_ok tyOk eqsOk hps hhs

end Go.Proofs.Av
