/- Registers. -/
import Derived.Test.YtedaankgfolbjaaF1
import Derived.Test.YtedaankgfolbjaaAv19
set_option linter.unusedVariables false
set_option linter.unusedSimpArgs false
namespace Go.Proofs.Av
open Go.Proofs

attribute [simp] ty_214

/-- slices.MaxFunc[Fact] by register.order -/
def maxBy {α : Type} (o : α → α → Int) (m : α) : List α → α
  | [] => m
  | y :: ys => maxBy o (if 0 < o y m then y else m) ys
def s182 : List Fact → Option Fact
  | [] => none
  | x :: xs => some (maxBy regOrder x xs)

abbrev fb (f : Fact) : HObj := .box [.p (I f.dot.r), .p (I f.dot.n), .p (I f.stamp.wall), .p (I f.stamp.count), .p (I f.stamp.who), .p (I f.kind), .p (.sc (.string f.name)), .p (.sc (.string f.value))]
def fact0 : Fact := ⟨⟨0, 0⟩, ⟨0, 0, 0⟩, 0, ⟨#[]⟩, ⟨#[]⟩⟩

theorem c182 : HeapC Try.prog 182 (hF1 183 s182) := by
  refine heapF1 (E := mkE ty [] [(183, fn2 s183)] []) (mkE_ok tyOk (by simp) (by simp [c183, n183]) (by simp)) mixed Try.func182 rfl rfl (by decide) fun l b hs hf => ?_
  simp [big] at hf
  match l, hs with
  | x :: xs, hs =>
  cases hs
  have hlen : ¬ ((xs.length : Int) + 1 < 1) := by omega
  simp [Try.f182, hlen]
  refine ac_loop (A := Nat × Fact) (fun a => a.1 ≤ (x :: xs).length ∧ maxBy regOrder a.2 ((x :: xs).drop a.1) = maxBy regOrder x xs) (fun a => (x :: xs).length - a.1) 2
    (fun a => [(0, .p (Ty.e (x :: xs))), (1, .fn 183 []), (4, .ptr 0 0), (5, .ptr 1 0), (6, .p (I a.1))]) (fun a => [fb fact0, fb a.2]) [0, 1, 4, 5, 6] (fun _ => rfl) (1, x) (Nat.zero_le _) (fun _ => by simp) (by simp [fact0]) ?_
  rintro ⟨i, m⟩ ⟨hi, ho⟩ _
  generalize maxBy regOrder x xs = r at *
  generalize x :: xs = l at *
  simp only at hi ho
  by_cases h : i < l.length
  · rw [List.drop_eq_getElem_cons h] at ho
    simp [h, s183]
    refine ⟨by show _ = true; kernel_rfl, fun hx => ?_, fun hx => ?_⟩
    · simp [maxBy, hx] at ho
      exact .mk (i + 1, l[i]) (by simp; omega) ⟨h, ho⟩ (by simp [wrap64 (n := i + 1) (by omega) (by omega)])
    · simp [maxBy, Int.not_lt.2 hx] at ho
      exact .mk (i + 1, m) (by simp; omega) ⟨h, ho⟩ (by simp [wrap64 (n := i + 1) (by omega) (by omega)])
  · simp [h]
    rw [List.drop_eq_nil_of_le (by omega)] at ho
    exact ho
theorem n182 : Enters Try.prog 182 := Go.Proofs.enters_of Try.func182 (by kernel_rfl) rfl

/-- register.Last -/
def regLast (l : List Fact) : ByteArray × Bool :=
  match l with
  | [] => (⟨#[]⟩, false)
  | x :: xs => ((maxBy regOrder x xs).value, true)
def s93 (l : List Fact) : Option (ByteArray × Bool) := some (regLast l)
theorem c93 : PureC Try.prog 93 (fn1 s93) := by
  refine pure1 (E := mkE ty [] [] [(182, hF1 183 s182)]) (mkE_ok tyOk (by simp) (by simp) (by simp [c182, n182, hF1_frame])) mixed Try.func93 rfl rfl (by decide) fun l b hs _ => ?_
  cases hs
  cases l with
  | nil => simp [Try.f93, regLast]
  | cons x xs =>
    have hlen : ¬ ((xs.length : Int) + 1 = 0) := by omega
    simp [Try.f93, regLast, hlen, hF1, dL, s182]
theorem n93 : Enters Try.prog 93 := Go.Proofs.enters_of Try.func93 (by kernel_rfl) rfl

/-- register.Of -/
def lim : Nat := 1048576
def ofOne (kind : Int) (name : ByteArray) (f : Fact) : Bool := (decide (kind = f.kind) || decide (kind = 0)) && decide (f.name = name)
def ofFacts (l : List Fact) (kind : Int) (name : ByteArray) : List Fact := l.filter (ofOne kind name)
def s95 (l : List Fact) (kind : Int) (name : ByteArray) : Option (List Fact) := if l.length ≤ lim then some (ofFacts l kind name) else none
theorem c95 : PureC Try.prog 95 (fn3 s95) := by
  refine pure3 E0ok mixed Try.func95 rfl rfl (by decide) fun l kind name b hs hf _ _ => ?_
  unfold s95 at hs
  split at hs
  · rename_i hlim
    cases hs
    simp [lim] at hlim
    simp [Try.f95]
    refine ac_loop (A := Nat × Nat × Nat) (fun a => a.1 ≤ l.length ∧ ((a.2.1 = 111 ∧ a.2.2 = 8) ∨ (a.2.1 = 0 ∧ a.2.2 = 0))) (fun a => l.length - a.1) 2
      (fun a => [(1, .p (I kind)), (2, .p (Ty.e name)), (7, .own 1 (ofFacts (l.take a.1) kind name).length), (10, .p (Ty.e l)), (11, .p (I l.length)), (12, .p (I a.1))])
      (fun a => [.row 0 0 0 [], .row a.2.1 a.2.2 (ofFacts (l.take a.1) kind name).length ((ofFacts (l.take a.1) kind name).map Cell.c)]) [1, 2, 7, 10, 11, 12] (fun _ => rfl) (0, 0, 0) (Nat.zero_le _) (fun _ => by simp) (by simp [ofFacts]) ?_
    rintro ⟨i, e, k⟩ ⟨hi, ho⟩ _
    simp only at hi ho
    by_cases h : i < l.length
    · have hts : ofFacts (l.take (i + 1)) kind name = ofFacts (l.take i) kind name ++ if ofOne kind name l[i] = true then [l[i]] else [] := by
        unfold ofFacts
        rw [List.take_succ_eq_append_getElem h, List.filter_append]
        simp [List.filter_cons]
      have yes : ofOne kind name l[i] = true → ofFacts (l.take (i + 1)) kind name = ofFacts (l.take i) kind name ++ [l[i]] := fun e => by rw [hts, if_pos e]
      have no : ofOne kind name l[i] = false → ofFacts (l.take (i + 1)) kind name = ofFacts (l.take i) kind name := fun e => by rw [hts, e]; simp
      have hw := wrap64 (n := i + 1) (by omega) (by omega)
      have hlen : (ofFacts (l.take i) kind name).length ≤ i := Nat.le_trans (List.length_filter_le _ _) (by simp; omega)
      simp [h]
      refine ⟨fun h1 => ⟨fun h2 => ⟨⟨by omega, by omega, by omega⟩, ?_⟩, fun h2 => ?_⟩, fun h1 => ⟨fun h3 => ⟨fun h2 => ⟨⟨by omega, by omega, by omega⟩, ?_⟩, fun h2 => ?_⟩, fun h3 => ?_⟩⟩
      · exact .mk (i + 1, 111, 8) (by simp; omega) ⟨h, .inl ⟨rfl, rfl⟩⟩ (by simp [hw, yes (by simp [ofOne, h1, h2])])
      · exact .mk (i + 1, e, k) (by simp; omega) ⟨h, ho⟩ (by simp [hw, no (by simp [ofOne, h1, h2])])
      · exact .mk (i + 1, 111, 8) (by simp; omega) ⟨h, .inl ⟨rfl, rfl⟩⟩ (by simp [hw, yes (by simp [ofOne, h1, h2, h3])])
      · exact .mk (i + 1, e, k) (by simp; omega) ⟨h, ho⟩ (by simp [hw, no (by simp [ofOne, h1, h2])])
      · exact .mk (i + 1, e, k) (by simp; omega) ⟨h, ho⟩ (by simp [hw, no (by simp [ofOne, h1, h3])])
    · have he : e < 4294967296 := by omega
      simp [h, he]
      rw [List.take_of_length_le (by omega)]
  · cases hs
theorem n95 : Enters Try.prog 95 := Go.Proofs.enters_of Try.func95 (by kernel_rfl) rfl

end Go.Proofs.Av
