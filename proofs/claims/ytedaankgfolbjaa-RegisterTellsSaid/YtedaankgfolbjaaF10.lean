/- Facts, by definition: order, the same, sorted. -/
import Derived.Test.YtedaankgfolbjaaF8
set_option linter.unusedVariables false
set_option linter.unusedSimpArgs false
namespace Go.Proofs.Av
open Go.Proofs

/-- almonryref15.Same -/
def s70 (a b : List Fact) : Option Bool := some (decide (a = b))
theorem c70 : PureC Try.prog 70 (fn2 s70) := by
  refine pure2 En0 mixed Try.func70 rfl rfl (by decide) fun a a' b hs hf hf' => ?_
  cases hs
  simp [big] at hf hf'
  simp [Try.f70]
  refine ⟨fun h e => h (by rw [e]), fun hl => ?_⟩
  have hl : a.length = a'.length := by omega
  refine ac_loop (A := Nat) (fun i => i ≤ a.length ∧ a.take i = a'.take i) (fun i => a.length - i) 0 (fun i => [(0, .p (Ty.e a)), (1, .p (Ty.e a')), (5, .p (I i))]) (fun _ => []) [0, 1, 5] (fun _ => rfl) 0 (Nat.le_refl _) (fun _ => by simp) (by simp) ?_
  intro i ⟨hi, ho⟩ _
  by_cases h : i < a.length
  · have h' : i < a'.length := by omega
    simp [h, h']
    have key : a[i] = a'[i] ↔ (a[i].dot.r = a'[i].dot.r ∧ a[i].dot.n = a'[i].dot.n ∧ a[i].stamp.wall = a'[i].stamp.wall ∧ a[i].stamp.count = a'[i].stamp.count ∧ a[i].stamp.who = a'[i].stamp.who ∧ a[i].kind = a'[i].kind ∧ a[i].name = a'[i].name ∧ a[i].value = a'[i].value) := by
      rw [Fact.ext_iff, Dot.ext_iff, Stamp.ext_iff]; grind
    refine ⟨by show _ = true; kernel_rfl, fun hx e => ?_, fun h1 h2 h3 h4 h5 h6 h7 h8 => .mk (i + 1) (by omega) ⟨h, (eq_take_succ h h').2 ⟨ho, key.2 ⟨h1, h2, h3, h4, h5, h6, h7, h8⟩⟩⟩ ?_⟩
    · have := key.1 (by simp [e]); grind
    · simp [wrap64 (n := i + 1) (by omega) (by omega)]
  · simp [h]
    have : i = a.length := by omega
    rw [this, List.take_length, hl, List.take_length] at ho
    exact ho
theorem n70 : Enters Try.prog 70 := Go.Proofs.enters_of Try.func70 (by kernel_rfl) rfl

/-- almonryref15.In -/
def s167 (a : List Fact) (x : Fact) : Option Bool := some (decide (x ∈ a))
theorem c167 : PureC Try.prog 167 (fn2 s167) := by
  refine pure2 En0 mixed Try.func167 rfl rfl (by decide) fun a x b hs hf hf' => ?_
  cases hs
  simp [big] at hf hf'
  simp [Try.f167]
  refine ac_loop (A := Nat) (fun i => i ≤ a.length ∧ x ∉ a.take i) (fun i => a.length - i) 1 (fun i => [(0, .p (Ty.e a)), (3, .ptr 0 0), (5, .p (I i))]) (fun _ => [.box ((Cell.c x).map .p)]) [0, 3, 5] (fun _ => rfl) 0 (Nat.zero_le _) (fun _ => by simp) (by simp) ?_
  intro i ⟨hi, ho⟩ _
  by_cases h : i < a.length
  · have key : a[i] = x ↔ (a[i].dot.r = x.dot.r ∧ a[i].dot.n = x.dot.n ∧ a[i].stamp.wall = x.stamp.wall ∧ a[i].stamp.count = x.stamp.count ∧ a[i].stamp.who = x.stamp.who ∧ a[i].kind = x.kind ∧ a[i].name = x.name ∧ a[i].value = x.value) := by
      rw [Fact.ext_iff, Dot.ext_iff, Stamp.ext_iff]; grind
    simp [h]
    refine ⟨by show _ = true; kernel_rfl, fun h1 h2 h3 h4 h5 h6 h7 h8 => ?_, fun hx => .mk (i + 1) (by omega) ⟨h, ?_⟩ ?_⟩
    · rw [← key.2 ⟨h1, h2, h3, h4, h5, h6, h7, h8⟩]; exact List.getElem_mem _
    · rw [List.take_succ_eq_append_getElem h, List.mem_append, List.mem_singleton]
      rintro (hm | hm)
      · exact ho hm
      · have := key.1 hm.symm; grind
    · simp [wrap64 (n := i + 1) (by omega) (by omega)]
  · simp [h]
    rw [List.take_of_length_le (by omega)] at ho
    exact ho
theorem n167 : Enters Try.prog 167 := Go.Proofs.enters_of Try.func167 (by kernel_rfl) rfl

/-- almonryref15.Less -/
def s168 (a b : Fact) : Option Bool := some (factLt a b)
theorem c168 : PureC Try.prog 168 (fn2 s168) := by
  refine pure2 e235 mixed Try.func168 rfl rfl (by decide) fun a a' b hs _ _ => ?_
  cases hs
  simp [Try.f168, factLt, s225, s226, ltS, Dot.ext_iff, Stamp.ext_iff]
  grind
theorem n168 : Enters Try.prog 168 := Go.Proofs.enters_of Try.func168 (by kernel_rfl) rfl

/-- almonryref15.Sort -/
def s71 (l : List Fact) : Option (List Fact) := if l.length ≤ lim then some (factSort l) else none
theorem c71 : PureC Try.prog 71 (fn1 s71) := by
  refine pure1 (En_ok (ps := [(167, fn2 s167), (168, fn2 s168)]) (hs := []) (by simp [c167, n167, c168, n168]) (by simp)) mixed Try.func71 rfl rfl (by decide) fun l l' hs hf => ?_
  unfold s71 at hs
  split at hs
  case isFalse => cases hs
  rename_i hlim
  cases hs
  simp [lim] at hlim
  simp [Try.f71]
  refine ac_loop (A := Nat) (fun i => i ≤ l.length) (fun i => l.length - i) 0 (fun i => [(0, .p (Ty.e l)), (3, .p (Ty.e (factSort (l.take i)))), (4, .p (I i))]) (fun _ => []) [0, 3, 4] (fun _ => rfl) 0 (Nat.zero_le _) (fun _ => Nat.zero_le _) (by simp [factSort, onceSort]) ?_
  intro i hi _
  by_cases h : i < l.length
  · have hol : (factSort (l.take i)).length ≤ i := Nat.le_trans (factSort_len _) (by simp; omega)
    have hnext : factSort (l.take (i + 1)) = onceIn factLt (factSort (l.take i)) l[i] := fold_take _ _ h
    have hw := wrap64 (n := i + 1) (by omega) (by omega)
    generalize factSort (l.take i) = out at *
    simp [h, s167]
    refine ⟨fun hin => .mk (i + 1) (by omega) h (by simp [hw, hnext, onceIn, hin]), fun hin => ?_⟩
    refine ac_loop (A := Nat) (fun k => k ≤ out.length ∧ ∀ y ∈ out.take k, factLt y l[i] = true) (fun k => out.length - k) 0 (fun k => [(0, .p (Ty.e l)), (3, .p (Ty.e out)), (4, .p (I i)), (5, .p (I k))]) (fun _ => []) [0, 3, 4, 5] (fun _ => rfl) 0 (Nat.zero_le _) (fun _ => by simp) (by simp) ?_
    rintro k ⟨hk, hb⟩ _
    have fin : (∀ h : k < out.length, factLt out[k] l[i] = false) → factSort (l.take (i + 1)) = out.take k ++ l[i] :: out.drop k := fun hs => by
      rw [hnext, onceIn, if_neg hin, ins_stop hk hb hs]
    by_cases hlt : k < out.length
    · have hwk := wrap64 (n := k + 1) (by omega) (by omega)
      simp [h, hlt, s168]
      refine ⟨by show _ = true; kernel_rfl, fun hx => .mk (k + 1) (by omega) ⟨hlt, (all_take_succ hlt).2 ⟨hb, hx⟩⟩ (by simp [hwk]), fun hx => ?_⟩
      have he := fin (fun _ => hx)
      exact ⟨⟨by omega, by omega⟩, ⟨by omega, by omega⟩, ⟨by omega, by omega, by omega⟩, .mk (i + 1) (by omega) h (by simp [hw, he])⟩
    · obtain rfl : k = out.length := by omega
      have he := fin (fun h => absurd h (Nat.lt_irrefl _))
      simp [h, s168]
      exact ⟨by show _ = true; kernel_rfl, ⟨by omega, by omega⟩, ⟨by omega, by omega⟩, .mk (i + 1) (by omega) h (by simp [hw, he])⟩
  · simp [h]
    have : i = l.length := by omega
    rw [this, List.take_length]
theorem n71 : Enters Try.prog 71 := Go.Proofs.enters_of Try.func71 (by kernel_rfl) rfl

end Go.Proofs.Av
