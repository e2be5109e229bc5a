/- Registers, by definition. -/
import Derived.Test.YtedaankgfolbjaaF7
import Derived.Test.YtedaankgfolbjaaG5
import Derived.Test.YtedaankgfolbjaaTyE
set_option linter.unusedVariables false
set_option linter.unusedSimpArgs false
namespace Go.Proofs.Av
open Go.Proofs

@[simp] theorem take_map_self {α β : Type} (f : α → β) (l : List α) : List.take l.length (l.map f) = l.map f := List.take_of_length_le (by simp)
theorem En0 : EnvOk Try.prog (En [] []) := En_ok (by simp) (by simp)

/-- almonryref11.Less -/
def s225 (a b : Dot) : Option Bool := some (dotLt a b)
theorem c225 : PureC Try.prog 225 (fn2 s225) := by
  refine pure2 En0 mixed Try.func225 rfl rfl (by decide) fun a a' b hs _ _ => ?_
  cases hs
  simp [Try.f225, dotLt]
  grind
theorem n225 : Enters Try.prog 225 := Go.Proofs.enters_of Try.func225 (by kernel_rfl) rfl

/-- almonryref14.Less -/
def s226 (a b : Stamp) : Option Bool := some (stampLt a b)
theorem c226 : PureC Try.prog 226 (fn2 s226) := by
  refine pure2 En0 mixed Try.func226 rfl rfl (by decide) fun a a' b hs _ _ => ?_
  cases hs
  simp [Try.f226, stampLt]
  grind
theorem n226 : Enters Try.prog 226 := Go.Proofs.enters_of Try.func226 (by kernel_rfl) rfl

/-- almonryref17.later -/
def s235 (a b : Fact) : Option Bool := some (later a b)
theorem e235 : EnvOk Try.prog (En [(225, fn2 s225), (226, fn2 s226)] []) := En_ok (by simp [c225, n225, c226, n226]) (by simp)
theorem c235 : PureC Try.prog 235 (fn2 s235) := by
  refine pure2 e235 mixed Try.func235 rfl rfl (by decide) fun a a' b hs _ _ => ?_
  cases hs
  simp [Try.f235, later, s225, s226, ltS, Dot.ext_iff, Stamp.ext_iff]
  grind
theorem n235 : Enters Try.prog 235 := Go.Proofs.enters_of Try.func235 (by kernel_rfl) rfl

/-- almonryref17.order -/
def s184 (l : List Fact) : Option (List Fact) := if l.length ≤ lim then some (refOrder l) else none
theorem c184 : PureC Try.prog 184 (fn1 s184) := by
  refine pure1 (En_ok (ps := [(235, fn2 s235)]) (hs := []) (by simp [c235, n235]) (by simp)) mixed Try.func184 rfl rfl (by decide) fun l l' hs hf => ?_
  unfold s184 at hs
  split at hs
  case isFalse => cases hs
  rename_i hlim
  cases hs
  simp [lim] at hlim
  simp [Try.f184]
  refine ac_loop (A := Nat) (fun i => i ≤ l.length) (fun i => l.length - i) 0 (fun i => [(0, .p (Ty.e l)), (3, .p (Ty.e (refOrder (l.take i)))), (4, .p (I i))]) (fun _ => []) [0, 3, 4] (fun _ => rfl) 0 (Nat.zero_le _) (fun _ => Nat.zero_le _) (by simp [refOrder]) ?_
  intro i hi _
  by_cases h : i < l.length
  · have hol : (refOrder (l.take i)).length ≤ i := Nat.le_trans (refOrder_len _) (by simp; omega)
    have hnext : refOrder (l.take (i + 1)) = insBack later (refOrder (l.take i)) l[i] := fold_take _ _ h
    have hw := wrap64 (n := i + 1) (by omega) (by omega)
    generalize refOrder (l.take i) = out at *
    simp [h]
    refine ac_loop (A := Nat) (fun k => k ≤ out.length ∧ back (fun y => later y l[i]) out k = back (fun y => later y l[i]) out out.length) (fun k => k) 0 (fun k => [(0, .p (Ty.e l)), (3, .p (Ty.e out)), (4, .p (I i)), (5, .p (I k))]) (fun _ => []) [0, 3, 4, 5] (fun _ => rfl) out.length (Nat.zero_le _) (fun _ => by simp) (by simp) ?_
    rintro k ⟨hk, hb⟩ _
    have fin : ∀ k, k ≤ out.length → back (fun y => later y l[i]) out out.length = k → insBack later out l[i] = out.take k ++ l[i] :: out.drop k := by
      intro k _ hk
      unfold insBack
      rw [hk]
    cases k with
    | zero =>
      have he := fin 0 hk (by rw [← hb]; rfl)
      have h0 : out.length ≤ 1048576 := by omega
      simp [h]
      exact ⟨by show _ = true; kernel_rfl, ⟨by omega, by omega⟩, .mk (i + 1) (by omega) h (by simp [hw, hnext, he])⟩
    | succ k =>
      have hlt : k < out.length := by omega
      have hgk : out[k]? = some out[k] := List.getElem?_eq_getElem hlt
      have hw1 : IntKind.i64.wrap (k : Int) = k := wrap64 (by omega) (by omega)
      have hp : (0 : Int) < (k : Int) + 1 := by omega
      have hlen : min (k + 1) out.length + (out.length - (k + 1) + 1) = out.length + 1 := by omega
      simp [h, hw1, hp, hlt, s235]
      refine ⟨by show _ = true; kernel_rfl, fun hx => ?_, fun hx => ?_⟩
      · have e : back (fun y => later y l[i]) out (k + 1) = back (fun y => later y l[i]) out k := by
          conv => lhs; unfold back
          simp [hgk, hx]
        exact .mk k (by omega) ⟨by omega, by rw [← e, hb]⟩ (by simp)
      · have e : back (fun y => later y l[i]) out (k + 1) = k + 1 := by
          conv => lhs; unfold back
          simp [hgk, hx]
        have he := fin (k + 1) hk (by rw [← hb, e])
        exact ⟨⟨⟨by omega, by omega⟩, by omega, by omega⟩, ⟨by omega, by omega⟩, ⟨⟨by omega, by omega⟩, by omega, by omega⟩, .mk (i + 1) (by omega) h (by simp [hw, hnext, he])⟩
  · simp [h]
    have : i = l.length := by omega
    rw [this, List.take_length]
theorem n184 : Enters Try.prog 184 := Go.Proofs.enters_of Try.func184 (by kernel_rfl) rfl

end Go.Proofs.Av
