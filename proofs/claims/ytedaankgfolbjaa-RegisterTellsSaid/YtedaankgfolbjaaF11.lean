/- The laws RegisterTells and RegisterTurned, walked. -/
import Derived.Test.YtedaankgfolbjaaF9
import Derived.Test.YtedaankgfolbjaaF10
set_option linter.unusedVariables false
set_option linter.unusedSimpArgs false
namespace Go.Proofs.Av
open Go.Proofs

@[simp] theorem dL_rev {α : Type} [Cell α] (l : List α) : dL Cell.d (l.map Cell.c).reverse = some l.reverse := by rw [← List.map_reverse]; exact dL_map _
abbrev E18 : Env := En [(64, fn1 s64), (92, fn0 s92), (93, fn1 s93), (94, fn1 s94), (95, fn3 s95), (96, fn3 s96), (70, fn2 s70), (97, t97), (98, fn1 s98), (99, fn1 s99), (100, fn1 s100), (34, fn2 s34)] []
theorem E18ok : EnvOk Try.prog E18 := En_ok
  (by simp only [List.mem_cons, List.not_mem_nil, or_false, forall_eq_or_imp, forall_eq]; exact ⟨⟨c64, n64⟩, ⟨c92, n92⟩, ⟨c93, n93⟩, ⟨c94, n94⟩, ⟨c95, n95⟩, ⟨c96, n96⟩, ⟨c70, n70⟩, ⟨p97, n97⟩, ⟨c98, n98⟩, ⟨c99, n99⟩, ⟨c100, n100⟩, c34, n34⟩) (by simp)
def s18 (l : List Fact) (kind : Int) (name : ByteArray) : Option Bool := some true
set_option maxHeartbeats 2000000 in
theorem c18 : PureC Try.prog 18 (fn3 s18) := by
  refine pure3 E18ok mixed Try.func18 rfl rfl (by decide) fun l kind name b hs hf _ _ => ?_
  cases hs
  by_cases hfew : fewFacts l
  · have hlim : l.length ≤ lim := by have := hfew.1; simp [lim]; omega
    have hlim' : l.length ≤ 1048576 := hlim
    by_cases hn : name.size ≤ 100
    · have hn' : ¬ ((name.size : Int) > 100) := by omega
      simp [Try.f18, s64, hfew, s92, s93, s94, s95, s96, s97, t97, s98, s99, s100, s70, s34, lim, hlim', hn', refAll_eq, refElements_eq]
    · have hn' : ((name.size : Int) > 100) := by omega
      simp [Try.f18, s64, hfew, s92, hn']
  · simp [Try.f18, s64, hfew, s92]

abbrev E19 : Env := En [(64, fn1 s64), (92, fn0 s92), (93, fn1 s93), (71, fn1 s71), (97, t97), (99, fn1 s99), (34, fn2 s34)] []
theorem E19ok : EnvOk Try.prog E19 := En_ok
  (by simp only [List.mem_cons, List.not_mem_nil, or_false, forall_eq_or_imp, forall_eq]; exact ⟨⟨c64, n64⟩, ⟨c92, n92⟩, ⟨c93, n93⟩, ⟨c71, n71⟩, ⟨p97, n97⟩, ⟨c99, n99⟩, c34, n34⟩) (by simp)
theorem regLast_perm {p q : List Fact} (h : p.Perm q) : regLast p = regLast q := by
  cases p with
  | nil => rw [List.Perm.nil_eq h]
  | cons x xs =>
    cases q with
    | nil => exact absurd h.length_eq (by simp)
    | cons y ys =>
      have hl : xs.length = ys.length := by have := h.length_eq; simpa using this
      have h1 := last_is_last x xs
      have h2 := last_is_last y ys
      rw [regAll_perm h, hl, h2] at h1
      simp only [regLast]
      rw [Option.some.inj h1]
theorem regElements_perm {p q : List Fact} (h : p.Perm q) : regElements p = regElements q := by unfold regElements; rw [regAll_perm h]
def s19 (l : List Fact) : Option Bool := some true
set_option maxHeartbeats 2000000 in
theorem c19 : PureC Try.prog 19 (fn1 s19) := by
  refine pure1 E19ok mixed Try.func19 rfl rfl (by decide) fun l b hs hf => ?_
  cases hs
  by_cases hfew : fewFacts l
  · have hlim : l.length ≤ lim := by have := hfew.1; simp [lim]; omega
    have hlim' : l.length ≤ 1048576 := hlim
    have hsl := factSort_len l
    simp [Try.f19, s64, hfew, s71, lim, hlim']
    generalize factSort l = m at *
    have hm : m.length ≤ 1048576 := by omega
    have hw0 : IntKind.i64.wrap ((m.length : Int) - 1) = m.length - 1 := wrap64 (by omega) (by omega)
    simp [hw0]
    refine ac_loop (A := Nat) (fun j => j ≤ m.length) (fun j => j) 1
      (fun j => [(3, .p (Ty.e m)), (4, .own 0 (m.length - j)), (5, .p (I ((j : Int) - 1)))])
      (fun j => [.row 111 8 (m.length - j) (((m.drop j).reverse).map Cell.c)]) [3, 4, 5] (fun _ => rfl) m.length (Nat.zero_le _) (fun _ => Nat.le_refl _) (by simp) ?_
    intro j hj _
    cases j with
    | succ k =>
      have h : k < m.length := hj
      have hw := wrap64 (n := (k : Int) - 1) (by omega) (by omega)
      have hd : (m.map Cell.c).drop k = Cell.c m[k] :: (m.map Cell.c).drop (k + 1) := by
        rw [List.drop_eq_getElem_cons (by simpa using h), List.getElem_map]
      have hlen : m.length - (k + 1) + 1 = m.length - k := by omega
      simp [h]
      refine ⟨⟨by omega, by omega⟩, .mk k (by omega) (by omega) ?_⟩
      rw [hd]
      simp [hw, hlen]
    | zero =>
      simp [s92, s93, s97, t97, s99, s34, lim, hm, regLast_perm (List.reverse_perm m), regElements_perm (List.reverse_perm m), regAll_perm (List.reverse_perm m)]
  · simp [Try.f19, s64, hfew, s92]

end Go.Proofs.Av
