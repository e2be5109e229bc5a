/- The law RegisterLast, walked. -/
import Derived.Test.YtedaankgfolbjaaF6
set_option linter.unusedVariables false
set_option linter.unusedSimpArgs false
namespace Go.Proofs.Av
open Go.Proofs

abbrev E20 : Env := mkE ty [] [(64, fn1 s64), (92, fn0 s92), (93, fn1 s93), (99, fn1 s99), (97, t97)] []
theorem E20ok : EnvOk Try.prog E20 := mkE_ok tyOk (by simp)
  (by simp only [List.mem_cons, List.not_mem_nil, or_false, forall_eq_or_imp, forall_eq]; exact ⟨⟨c64, n64⟩, ⟨c92, n92⟩, ⟨c93, n93⟩, ⟨c99, n99⟩, p97, n97⟩) (by simp)
def s20 (l : List Fact) : Option Bool := some true
set_option maxHeartbeats 2000000 in
theorem c20 : PureC Try.prog 20 (fn1 s20) := by
  refine pure1 E20ok mixed Try.func20 rfl rfl (by decide) fun l b hs hf => ?_
  cases hs
  by_cases hfew : fewFacts l
  · have hl := hfew.1
    have hlim : l.length ≤ lim := by simp [lim]; omega
    simp [lim] at hlim
    have hr0 : regAll [] = [] := by unfold regAll; rw [List.Perm.eq_nil (regSort_perm [])]; rfl
    have he0 : regElements [] = [] := by simp [regElements, hr0, sortStr, packStr, Lib.compact, Lib.compactUpTo]
    cases l with
    | nil =>
      simp [Try.f20, s64, hfew, s93, s99, s97, t97, lim, hr0, he0, regLast]
      refine ac_loop (A := Unit) (fun _ => True) (fun _ => 0) 0 (fun _ => [(3, .p (.sl 1 [])), (7, .p (I 0))]) (fun _ => []) [3, 7] (fun _ => rfl) () (Nat.le_refl _) (fun _ => trivial) (by simp) ?_
      intro _ _ _
      simp [s92]
    | cons x xs =>
      have hx := last_is_last x xs
      have hw : IntKind.i64.wrap (xs.length : Int) = xs.length := wrap64 (by omega) (by simp at hl; omega)
      simp at hlim
      have hp : 0 < (xs.length : Int) + 1 := by omega
      simp [Try.f20, s64, hfew, s93, s99, s97, t97, lim, hlim, regAll_length, regLast, hx, hw, hp]
      have hql : (regAll (x :: xs)).length = xs.length + 1 := by rw [regAll_length]; rfl
      refine ⟨by omega, ?_, fun hy => ?_⟩
      · rw [List.getElem?_eq_getElem (by omega)] at hx
        exact (Option.some.inj hx).symm
      clear hx hy
      have hin := all_are_elements (x :: xs)
      refine ac_loop (A := Nat) (fun i => i ≤ (regAll (x :: xs)).length) (fun i => (regAll (x :: xs)).length - i) 0 (fun i => [(3, .p (Ty.e (regAll (x :: xs)))), (4, .p (Ty.e (regElements (x :: xs)))), (7, .p (I i))]) (fun _ => []) [3, 4, 7] (fun _ => rfl) 0 (Nat.le_refl _) (fun _ => Nat.zero_le _) (by simp) ?_
      intro i hi hfi
      generalize regAll (x :: xs) = q at *
      generalize regElements (x :: xs) = el at *
      have hel := hfi.1 4 (by decide)
      simp [big] at hel
      by_cases h : i < q.length
      · simp [h]
        refine ac_loop (A := Nat × Bool) (fun a => a.1 ≤ el.length ∧ (a.2 = true ↔ q[i] ∈ el.take a.1)) (fun a => el.length - a.1) 0
          (fun a => [(3, .p (Ty.e q)), (4, .p (Ty.e el)), (7, .p (I i)), (8, .p (B a.2)), (9, .p (I a.1))]) (fun _ => []) [3, 4, 7, 8, 9] (fun _ => rfl) (0, false) (Nat.zero_le _) (fun _ => by simp) (by simp) ?_
        rintro ⟨j, b⟩ ⟨hj, hb⟩ _
        simp only at hj hb
        by_cases h' : j < el.length
        · simp [h, h']
          refine ⟨by show _ = true; kernel_rfl, ?_⟩
          have hwj := wrap64 (n := j + 1) (by omega) (by omega)
          refine .mk (j + 1, b || decide (el[j] = q[i])) (by simp; omega) ⟨h', ?_⟩ (by simp [hwj])
          rw [List.take_succ_eq_append_getElem h', List.mem_append, ← hb]
          rw [Bool.or_eq_true, decide_eq_true_eq, List.mem_singleton, eq_comm (a := el[j])]
        · have hje : j = el.length := by omega
          rw [hje, List.take_length] at hb
          have hbt : b = true := hb.2 (hin _ (List.getElem_mem h))
          have hwi := wrap64 (n := i + 1) (by omega) (by omega)
          simp [h']
          exact ⟨hbt, fun _ => .mk (i + 1) (by omega) h (by simp [hwi])⟩
      · simp [h, s92]
  · simp [Try.f20, s64, hfew, s92]
end Go.Proofs.Av
