/- Small functions. -/
import Derived.Test.YtedaankgfolbjaaTy
import Derived.Test.YtedaankgfolbjaaD1
import Derived.Shelf.Abstract
set_option linter.unusedVariables false
set_option linter.unusedSimpArgs false
namespace Go.Proofs.Av
open Go.Proofs

theorem mixed : Try.prog.follows .mixedOrders = true := by kernel_rfl

abbrev I (n : Int) : PV := .sc (.int .i64 n)
abbrev B (b : Bool) : PV := .sc (.bool b)

attribute [simp] ty_3 ty_4 ty_9 ty_23 ty_25 ty_26 ty_57 ty_111 ty_303 ty_306

abbrev E0 : Env := mkE ty [] [] []
theorem E0ok : EnvOk Try.prog E0 := mkE_ok tyOk (by simp) (by simp) (by simp)

/-- dot.Check -/
def s151 (d : Dot) : Option Int := some (if d.r < 0 ∨ d.r ≥ 16 ∨ d.n < 1 ∨ d.n > 1099511627776 then 2 else 0)
theorem c151 : PureC Try.prog 151 (fn1 s151) := by
  refine pure1 E0ok mixed Try.func151 rfl rfl (by decide) fun a b hs _ => ?_
  cases hs
  simp [Try.f151]
  grind

/-- cmp.isNaN[string] -/
def s257 (a : ByteArray) : Option Bool := some false
theorem c257 : PureC Try.prog 257 (fn1 s257) := by
  refine pure1 E0ok mixed Try.func257 rfl rfl (by decide) fun a b hs _ => ?_
  cases hs
  simp [Try.f257]
theorem n257 : Enters Try.prog 257 := Go.Proofs.enters_of Try.func257 (by kernel_rfl) rfl

/-- cmp.isNaN[int] -/
def s258 (a : Int) : Option Bool := some false
theorem c258 : PureC Try.prog 258 (fn1 s258) := by
  refine pure1 E0ok mixed Try.func258 rfl rfl (by decide) fun a b hs _ => ?_
  cases hs
  simp [Try.f258]
theorem n258 : Enters Try.prog 258 := Go.Proofs.enters_of Try.func258 (by kernel_rfl) rfl

/-- cmp.Compare[string] -/
def cmpS (a b : ByteArray) : Int := if Op.bytesLess a.toList b.toList = true then -1 else if a = b then 0 else 1
def s220 (a b : ByteArray) : Option Int := some (cmpS a b)
abbrev E220 : Env := mkE ty [] [(257, fn1 s257)] []
theorem c220 : PureC Try.prog 220 (fn2 s220) := by
  refine pure2 (E := E220) (mkE_ok tyOk (by simp) (by simp [c257, n257]) (by simp)) mixed Try.func220 rfl rfl (by decide) fun a a' b hs _ _ => ?_
  cases hs
  simp [Try.f220, s257, cmpS]
  grind
theorem n220 : Enters Try.prog 220 := Go.Proofs.enters_of Try.func220 (by kernel_rfl) rfl

/-- cmp.Compare[int] -/
def cmpI (a b : Int) : Int := if a < b then -1 else if a = b then 0 else 1
def s221 (a b : Int) : Option Int := some (cmpI a b)
abbrev E221 : Env := mkE ty [] [(258, fn1 s258)] []
theorem c221 : PureC Try.prog 221 (fn2 s221) := by
  refine pure2 (E := E221) (mkE_ok tyOk (by simp) (by simp [c258, n258]) (by simp)) mixed Try.func221 rfl rfl (by decide) fun a a' b hs _ _ => ?_
  cases hs
  simp [Try.f221, s258, cmpI]
  grind
theorem n221 : Enters Try.prog 221 := Go.Proofs.enters_of Try.func221 (by kernel_rfl) rfl

/-- The first that is not zero. -/
def orI : List Int → Int
  | [] => 0
  | x :: xs => if x ≠ 0 then x else orI xs

/-- cmp.Or[int] -/
def s219 (l : List Int) : Option Int := some (orI l)
theorem c219 : PureC Try.prog 219 (fn1 s219) := by
  refine pure1 E0ok mixed Try.func219 rfl rfl (by decide) fun l b hs hf => ?_
  cases hs
  simp [big] at hf
  simp [Try.f219]
  refine ac_loop (A := Nat) (fun i => i ≤ l.length ∧ orI (l.drop i) = orI l) (fun i => l.length - i) 0 (fun i => [(2, .p (I 0)), (3, .p (I 0)), (6, .p (Ty.e l)), (7, .p (I l.length)), (8, .p (I i))]) (fun _ => []) [2, 3, 6, 7, 8] (fun _ => rfl) 0 (Nat.le_refl _) (fun _ => by simp) (by simp) ?_
  intro i ⟨hi, ho⟩ _
  by_cases h : i < l.length
  · have hd : l.drop i = l[i] :: l.drop (i + 1) := List.drop_eq_getElem_cons h
    rw [hd] at ho
    simp [h]
    refine ⟨fun hx => ?_, fun hx => ?_⟩
    · simp [orI, hx] at ho; exact ho
    · simp [orI, hx] at ho
      exact .mk (i + 1) (by omega) ⟨h, ho⟩ (by simp [wrap64 (n := i + 1) (by omega) (by omega), hx])
  · simp [h]
    have : l.drop i = [] := List.drop_eq_nil_of_le (by omega)
    rw [this] at ho
    exact ho
theorem n219 : Enters Try.prog 219 := Go.Proofs.enters_of Try.func219 (by kernel_rfl) rfl

/-- dot.order -/
def dotOrder (a b : Dot) : Int := orI [cmpI a.r b.r, cmpI a.n b.n]
def s229 (a b : Dot) : Option Int := some (dotOrder a b)
abbrev E229 : Env := mkE ty [] [(219, fn1 s219), (221, fn2 s221)] []
theorem E229ok : EnvOk Try.prog E229 := mkE_ok tyOk (by simp) (by simp [c219, n219, c221, n221]) (by simp)
theorem c229 : PureC Try.prog 229 (fn2 s229) := by
  refine pure2 E229ok mixed Try.func229 rfl rfl (by decide) fun a a' b hs _ _ => ?_
  cases hs
  simp [Try.f229, s219, s221, dotOrder]
  all_goals (show _ = _)
  kernel_rfl
theorem n229 : Enters Try.prog 229 := Go.Proofs.enters_of Try.func229 (by kernel_rfl) rfl

/-- dot.Less -/
def dotLess (a b : Dot) : Bool := decide (dotOrder a b < 0)
def s190 (a b : Dot) : Option Bool := some (dotLess a b)
theorem c190 : PureC Try.prog 190 (fn2 s190) := by
  refine pure2 (E := mkE ty [] [(229, fn2 s229)] []) (mkE_ok tyOk (by simp) (by simp [c229, n229]) (by simp)) mixed Try.func190 rfl rfl (by decide) fun a a' b hs _ _ => ?_
  cases hs
  simp [Try.f190, s229, dotLess]
theorem n190 : Enters Try.prog 190 := Go.Proofs.enters_of Try.func190 (by kernel_rfl) rfl

/-- stamp.when.order -/
def stampOrder (a b : Stamp) : Int := orI [cmpI a.wall b.wall, cmpI a.count b.count, cmpI a.who b.who]
def s261 (a b : Stamp) : Option Int := some (stampOrder a b)
theorem c261 : PureC Try.prog 261 (fn2 s261) := by
  refine pure2 E229ok mixed Try.func261 rfl rfl (by decide) fun a a' b hs _ _ => ?_
  cases hs
  simp [Try.f261, s219, s221, stampOrder]
  show _ = true
  kernel_rfl
theorem n261 : Enters Try.prog 261 := Go.Proofs.enters_of Try.func261 (by kernel_rfl) rfl

/-- stamp.Less -/
def stampLess (a b : Stamp) : Bool := decide (stampOrder a b < 0)
def s224 (a b : Stamp) : Option Bool := some (stampLess a b)
theorem c224 : PureC Try.prog 224 (fn2 s224) := by
  refine pure2 (E := mkE ty [] [(261, fn2 s261)] []) (mkE_ok tyOk (by simp) (by simp [c261, n261]) (by simp)) mixed Try.func224 rfl rfl (by decide) fun a a' b hs _ _ => ?_
  cases hs
  simp [Try.f224, s261, stampLess]
theorem n224 : Enters Try.prog 224 := Go.Proofs.enters_of Try.func224 (by kernel_rfl) rfl

/-- register.sign -/
def sign (a b : Bool) : Int := if a = true then -1 else if b = true then 1 else 0
def s234 (a b : Bool) : Option Int := some (sign a b)
theorem c234 : PureC Try.prog 234 (fn2 s234) := by
  refine pure2 E0ok mixed Try.func234 rfl rfl (by decide) fun a a' b hs _ _ => ?_
  cases hs
  simp [Try.f234, sign]
  grind
theorem n234 : Enters Try.prog 234 := Go.Proofs.enters_of Try.func234 (by kernel_rfl) rfl

/-- register.order -/
def regOrder (a b : Fact) : Int :=
  orI [sign (stampLess a.stamp b.stamp) (stampLess b.stamp a.stamp), sign (dotLess a.dot b.dot) (dotLess b.dot a.dot), cmpS a.value b.value]
def s183 (a b : Fact) : Option Int := some (regOrder a b)
theorem c183 : PureC Try.prog 183 (fn2 s183) := by
  refine pure2 (E := mkE ty [] [(219, fn1 s219), (220, fn2 s220), (190, fn2 s190), (224, fn2 s224), (234, fn2 s234)] []) (mkE_ok tyOk (by simp) (by simp [c219, n219, c220, n220, c190, n190, c224, n224, c234, n234]) (by simp)) mixed Try.func183 rfl rfl (by decide) fun a a' b hs _ _ => ?_
  cases hs
  simp [Try.f183, s219, s220, s190, s224, s234, regOrder]
  show _ = true
  kernel_rfl
theorem n183 : Enters Try.prog 183 := Go.Proofs.enters_of Try.func183 (by kernel_rfl) rfl

/-- almonrylaw17.at -/
def regAt (n kind : Int) (v : ByteArray) : Fact := ⟨⟨0, n⟩, ⟨n, 0, 0⟩, kind, ⟨#[97]⟩, v⟩
def s181 (n kind : Int) (v : ByteArray) : Option Fact := some (regAt n kind v)
theorem c181 : PureC Try.prog 181 (fn3 s181) := by
  refine pure3 E0ok mixed Try.func181 rfl rfl (by decide) fun a a' a'' b hs _ _ _ => ?_
  cases hs
  simp [Try.f181, regAt]
theorem n181 : Enters Try.prog 181 := Go.Proofs.enters_of Try.func181 (by kernel_rfl) rfl

/-- almonryref01.Texts -/
def s34 (a b : List ByteArray) : Option Bool := some (decide (a = b))
theorem c34 : PureC Try.prog 34 (fn2 s34) := by
  refine pure2 E0ok mixed Try.func34 rfl rfl (by decide) fun a a' b hs hf hf' => ?_
  cases hs
  simp [big] at hf hf'
  simp [Try.f34]
  refine ⟨fun h e => h (by rw [e]), fun hl => ?_⟩
  have hl : a.length = a'.length := by omega
  refine ac_loop (A := Nat) (fun i => i ≤ a.length ∧ a.take i = a'.take i) (fun i => a.length - i) 0 (fun i => [(0, .p (Ty.e a)), (1, .p (Ty.e a')), (4, .p (B false)), (5, .p (I i))]) (fun _ => []) [0, 1, 4, 5] (fun _ => rfl) 0 (Nat.le_refl _) (fun _ => by simp) (by simp) ?_
  intro i ⟨hi, ho⟩ _
  by_cases h : i < a.length
  · have h' : i < a'.length := by omega
    simp [h, h']
    refine ⟨by show _ = true; kernel_rfl, fun hx e => hx (by simp [e]), fun hx => .mk (i + 1) (by omega) ⟨h, (eq_take_succ h h').2 ⟨ho, hx⟩⟩ ?_⟩
    simp [wrap64 (n := i + 1) (by omega) (by omega)]
  · simp [h]
    have : i = a.length := by omega
    rw [this, List.take_length, hl, List.take_length] at ho
    exact ho
theorem n34 : Enters Try.prog 34 := Go.Proofs.enters_of Try.func34 (by kernel_rfl) rfl

/-- almonrylaw15.Few -/
def factSmall (f : Fact) : Prop := f.name.size ≤ 100 ∧ f.value.size ≤ 1000
instance (f : Fact) : Decidable (factSmall f) := by unfold factSmall; infer_instance
def fewFacts (l : List Fact) : Prop := l.length ≤ 30 ∧ ∀ f ∈ l, factSmall f
instance (l : List Fact) : Decidable (fewFacts l) := by unfold fewFacts; infer_instance
def s64 (l : List Fact) : Option Bool := some (decide (fewFacts l))
theorem c64 : PureC Try.prog 64 (fn1 s64) := by
  refine pure1 E0ok mixed Try.func64 rfl rfl (by decide) fun l b hs hf => ?_
  cases hs
  simp [big] at hf
  simp [Try.f64, fewFacts]
  refine ⟨fun h => decide_eq_false (fun h2 => absurd h2.1 (by omega)), fun hl => ?_⟩
  refine ac_loop (A := Nat) (fun i => i ≤ l.length ∧ ∀ f ∈ l.take i, factSmall f) (fun i => l.length - i) 0 (fun i => [(0, .p (Ty.e l)), (3, .p (I i))]) (fun _ => []) [0, 3] (fun _ => rfl) 0 (Nat.le_refl _) (fun _ => by simp) (by simp) ?_
  intro i ⟨hi, ho⟩ _
  by_cases h : i < l.length
  · simp [h]
    refine ⟨fun hx => decide_eq_false (fun h2 => ?_), fun h1 h2 => .mk (i + 1) (by omega) ⟨h, (all_take_succ h).2 ⟨ho, by unfold factSmall; omega⟩⟩ ?_⟩
    · have := h2.2 l[i] (by simp)
      unfold factSmall at this
      omega
    · simp [wrap64 (n := i + 1) (by omega) (by omega)]
  · simp [h]
    rw [List.take_of_length_le (by omega)] at ho
    exact decide_eq_true ⟨by omega, ho⟩
theorem n64 : Enters Try.prog 64 := Go.Proofs.enters_of Try.func64 (by kernel_rfl) rfl

end Go.Proofs.Av
