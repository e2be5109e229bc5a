/- Registers, by definition: all, the last, of a kind. -/
import Derived.Test.YtedaankgfolbjaaF8
set_option linter.unusedVariables false
set_option linter.unusedSimpArgs false
namespace Go.Proofs.Av
open Go.Proofs

/-- almonryref17.All -/
def s98 (l : List Fact) : Option (List ByteArray) := if l.length ≤ lim then some ((refOrder l).map (·.value)) else none
theorem c98 : PureC Try.prog 98 (fn1 s98) := by
  refine pure1 (En_ok (ps := [(184, fn1 s184)]) (hs := []) (by simp [c184, n184]) (by simp)) mixed Try.func98 rfl rfl (by decide) fun l l' hs hf => ?_
  unfold s98 at hs
  split at hs
  case isFalse => cases hs
  rename_i hlim
  cases hs
  simp [lim] at hlim
  have hlen := refOrder_len l
  simp [Try.f98, s184, lim, hlim]
  generalize refOrder l = q at *
  refine ac_loop (A := Nat) (fun i => i ≤ q.length) (fun i => q.length - i) 2
    (fun i => [(3, .own 1 i), (4, .p (Ty.e q)), (5, .p (I i))])
    (fun i => [.row 0 0 0 [], .row 9 1 i (((q.take i).map (·.value)).map Cell.c)]) [3, 4, 5] (fun _ => rfl) 0 (Nat.zero_le _) (fun _ => Nat.zero_le _) (by simp) ?_
  intro i hi _
  by_cases h : i < q.length
  · have hw := wrap64 (n := i + 1) (by omega) (by omega)
    have hmin : min i q.length = i := by omega
    have hts := List.take_succ_eq_append_getElem (l := q.map (Cell.c ∘ fun (x : Fact) => x.value)) (i := i) (by simpa using h)
    simp only [List.getElem_map, Function.comp_apply, c_str] at hts
    simp [h, hmin]
    exact ⟨⟨by omega, by omega⟩, .mk (i + 1) (by omega) h (by simp [hw, hts])⟩
  · simp [h]
    have : i = q.length := by omega
    rw [List.take_of_length_le (by simp; omega)]
    have := dL_map (q.map fun x : Fact => x.value)
    rwa [List.map_map] at this
theorem n98 : Enters Try.prog 98 := Go.Proofs.enters_of Try.func98 (by kernel_rfl) rfl

/-- almonryref17.Last -/
def refLast (l : List Fact) : ByteArray × Bool := match (regAll l).getLast? with | some v => (v, true) | none => (⟨#[]⟩, false)
def s94 (l : List Fact) : Option (ByteArray × Bool) := if l.length ≤ lim then some (regLast l) else none
theorem c94 : PureC Try.prog 94 (fn1 s94) := by
  refine pure1 (En_ok (ps := [(98, fn1 s98)]) (hs := []) (by simp [c98, n98]) (by simp)) mixed Try.func94 rfl rfl (by decide) fun l l' hs hf => ?_
  unfold s94 at hs
  split at hs
  case isFalse => cases hs
  rename_i hlim
  cases hs
  simp [lim] at hlim
  cases l with
  | nil => simp [Try.f94, s98, lim, refOrder, regLast]
  | cons x xs =>
    have hx := last_is_last x xs
    have hq : (regAll (x :: xs)).length = xs.length + 1 := by rw [regAll_length]; rfl
    simp at hlim
    have hw : IntKind.i64.wrap (xs.length : Int) = xs.length := wrap64 (by omega) (by omega)
    have hne : ¬ (xs.length : Int) + 1 = 0 := by omega
    simp [Try.f94, s98, lim, hlim, refAll_eq, hq, hw, hne, regLast, hx]
    refine ⟨by omega, ?_⟩
    rw [List.getElem?_eq_getElem (by omega)] at hx
    exact Option.some.inj hx
theorem n94 : Enters Try.prog 94 := Go.Proofs.enters_of Try.func94 (by kernel_rfl) rfl

/-- almonryref17.Of -/
def s96 (l : List Fact) (kind : Int) (name : ByteArray) : Option (List Fact) := if l.length ≤ lim then some (ofFacts l kind name) else none
theorem c96 : PureC Try.prog 96 (fn3 s96) := by
  refine pure3 En0 mixed Try.func96 rfl rfl (by decide) fun l kind name b hs hf _ _ => ?_
  unfold s96 at hs
  split at hs
  case isFalse => cases hs
  rename_i hlim
  cases hs
  simp [lim] at hlim
  simp [Try.f96]
  refine ac_loop (A := Nat) (fun i => i ≤ l.length) (fun i => l.length - i) 2
    (fun i => [(0, .p (Ty.e l)), (1, .p (I kind)), (2, .p (Ty.e name)), (7, .own 1 (ofFacts (l.take i) kind name).length), (8, .p (I i))])
    (fun i => [.row 0 0 0 [], .row 111 8 (ofFacts (l.take i) kind name).length ((ofFacts (l.take i) kind name).map Cell.c)]) [0, 1, 2, 7, 8] (fun _ => rfl) 0 (Nat.zero_le _) (fun _ => Nat.zero_le _) (by simp [ofFacts]) ?_
  intro i hi _
  by_cases h : i < l.length
  · have hts : ofFacts (l.take (i + 1)) kind name = ofFacts (l.take i) kind name ++ if ofOne kind name l[i] = true then [l[i]] else [] := by
      unfold ofFacts
      rw [List.take_succ_eq_append_getElem h, List.filter_append]
      simp [List.filter_cons]
    have yes : ofOne kind name l[i] = true → ofFacts (l.take (i + 1)) kind name = ofFacts (l.take i) kind name ++ [l[i]] := fun e => by rw [hts, if_pos e]
    have no : ofOne kind name l[i] = false → ofFacts (l.take (i + 1)) kind name = ofFacts (l.take i) kind name := fun e => by rw [hts, e]; simp
    have hw := wrap64 (n := i + 1) (by omega) (by omega)
    have hlen : (ofFacts (l.take i) kind name).length ≤ i := Nat.le_trans (List.length_filter_le _ _) (by simp; omega)
    simp [h]
    refine ⟨fun h1 h2 => ⟨⟨by omega, by omega⟩, ?_⟩, fun h1 => ?_⟩
    · exact .mk (i + 1) (by omega) h (by simp [hw, yes (by simp [ofOne, h2]; grind)])
    · exact .mk (i + 1) (by omega) h (by simp [hw, no (by simp [ofOne]; grind)])
  · simp [h]
    rw [List.take_of_length_le (by omega)]
theorem n96 : Enters Try.prog 96 := Go.Proofs.enters_of Try.func96 (by kernel_rfl) rfl

/-- almonryref17.Elements -/
def s100 (l : List Fact) : Option (List ByteArray) := if l.length ≤ lim then some (refElements l) else none
set_option maxHeartbeats 2000000 in
theorem c100 : PureC Try.prog 100 (fn1 s100) := by
  refine pure1 En0 mixed Try.func100 rfl rfl (by decide) fun l l' hs hf => ?_
  unfold s100 at hs
  split at hs
  case isFalse => cases hs
  rename_i hlim
  cases hs
  simp [lim] at hlim
  simp [Try.f100]
  refine ac_loop (A := Nat) (fun i => i ≤ l.length) (fun i => l.length - i) 0 (fun i => [(0, .p (Ty.e l)), (3, .p (Ty.e (refElements (l.take i)))), (4, .p (I i))]) (fun _ => []) [0, 3, 4] (fun _ => rfl) 0 (Nat.zero_le _) (fun _ => Nat.zero_le _) (by simp [refElements]) ?_
  intro i hi _
  by_cases h : i < l.length
  · have hol : (refElements (l.take i)).length ≤ i := Nat.le_trans (refElements_len _) (by simp; omega)
    have hnext : refElements (l.take (i + 1)) = elIn (refElements (l.take i)) l[i].value := by
      unfold refElements
      rw [List.take_succ_eq_append_getElem h, List.map_append, List.foldl_append]; rfl
    have hw := wrap64 (n := i + 1) (by omega) (by omega)
    generalize refElements (l.take i) = out at *
    simp [h]
    refine ac_loop (A := Nat) (fun k => k ≤ out.length ∧ ∀ y ∈ out.take k, ltS y l[i].value = true) (fun k => out.length - k) 0 (fun k => [(0, .p (Ty.e l)), (3, .p (Ty.e out)), (4, .p (I i)), (5, .p (I k))]) (fun _ => []) [0, 3, 4, 5] (fun _ => rfl) 0 (Nat.zero_le _) (fun _ => by simp) (by simp) ?_
    rintro k ⟨hk, hb⟩ _
    by_cases hlt : k < out.length
    · have hwk := wrap64 (n := k + 1) (by omega) (by omega)
      have hgk : out[k]? = some out[k] := List.getElem?_eq_getElem hlt
      simp [h, hlt]
      refine ⟨by show _ = true; kernel_rfl, fun hx => .mk (k + 1) (by omega) ⟨hlt, (all_take_succ hlt).2 ⟨hb, hx⟩⟩ (by simp [hwk]), fun hx => ⟨by show _ = true; kernel_rfl, fun he => ?_, fun he => ?_⟩⟩
      · obtain ⟨_, hd⟩ := takeWhile_stop (p := fun y => ltS y l[i].value) hk hb (fun _ => hx)
        have : elIn out l[i].value = out := by unfold elIn; rw [hd, List.head?_drop, hgk, he, if_pos rfl]
        exact .mk (i + 1) (by omega) h (by simp [hw, hnext, this])
      · obtain ⟨_, hd⟩ := takeWhile_stop (p := fun y => ltS y l[i].value) hk hb (fun _ => hx)
        have : elIn out l[i].value = out.take k ++ l[i].value :: out.drop k := by
          unfold elIn; rw [hd, List.head?_drop, hgk, if_neg (by simpa using he), ins_stop hk hb (fun _ => hx)]
        exact ⟨⟨by omega, by omega⟩, ⟨by omega, by omega⟩, ⟨by omega, by omega, by omega⟩, .mk (i + 1) (by omega) h (by simp [hw, hnext, this])⟩
    · obtain rfl : k = out.length := by omega
      obtain ⟨_, hd⟩ := takeWhile_stop (p := fun y => ltS y l[i].value) hk hb (fun h => absurd h (Nat.lt_irrefl _))
      have : elIn out l[i].value = out ++ [l[i].value] := by
        unfold elIn; rw [hd, ins_stop hk hb (fun h => absurd h (Nat.lt_irrefl _))]; simp
      simp [h]
      exact ⟨by show _ = true; kernel_rfl, by show _ = true; kernel_rfl, ⟨by omega, by omega⟩, ⟨by omega, by omega⟩, .mk (i + 1) (by omega) h (by simp [hw, hnext, this])⟩
  · simp [h]
    have : i = l.length := by omega
    rw [this, List.take_length]
theorem n100 : Enters Try.prog 100 := Go.Proofs.enters_of Try.func100 (by kernel_rfl) rfl

end Go.Proofs.Av
