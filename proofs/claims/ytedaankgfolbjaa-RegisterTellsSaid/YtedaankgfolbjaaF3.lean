/- Registers: functions that hand over a new slice, or sort one. -/
import Derived.Test.YtedaankgfolbjaaF2
import Derived.Test.YtedaankgfolbjaaAv21
import Derived.Test.YtedaankgfolbjaaG1
import Derived.Test.YtedaankgfolbjaaSl
set_option linter.unusedVariables false
set_option linter.unusedSimpArgs false
namespace Go.Proofs.Av
open Go.Proofs

instance : Sca Fact where
  sc b x hx := by simp at hx; rcases hx with rfl | rfl | rfl | rfl | rfl | rfl | rfl | rfl <;> exact ⟨_, rfl⟩
  dc xs b h := by
    simp only [Cell.d] at h
    split at h
    · cases h; rfl
    · cases h
  pos := by decide
instance : Sca ByteArray where
  sc b x hx := by simp at hx; subst hx; exact ⟨_, rfl⟩
  dc xs b h := by
    simp only [Cell.d] at h
    split at h
    · cases h; rfl
    · cases h
  pos := by decide

/-- slices.Clone[Fact] -/
def s163 (l : List Fact) : Option (List Fact) := if l.length ≤ lim then some l else none
theorem c163 : FreshC Try.prog 163 111 (gn1 s163) := by
  refine fresh1W E0ok mixed Try.func163 rfl rfl (by decide) fun l l' hs hf => ?_
  unfold s163 at hs
  split at hs
  · rename_i hlim
    cases hs
    simp [lim] at hlim
    refine aw_seq (ac_sound E0ok mixed _ _ _ ?_)
    simp
    refine aw_seq (aw_seq (aw_isnil (x := 0) (a := 3) (b := 4) (e := 111) (k := 8) (es := l.map Cell.c) E0ok rfl rfl rfl rfl rfl rfl (by decide) (by decide) Try.underlying26 (by simp) ?_))
    intro c hc
    refine ac_sound E0ok mixed _ _ _ ?_
    cases c with
    | true =>
      have : l = [] := by simpa using hc rfl
      subst this
      simp
    | false =>
      simp
      refine ac_sound E0ok mixed _ _ _ ?_
      simp
      omega
  · cases hs
theorem n163 : Enters Try.prog 163 := Go.Proofs.enters_of Try.func163 (by kernel_rfl) rfl

instance : Inhabited Fact := ⟨⟨⟨0, 0⟩, ⟨0, 0, 0⟩, 0, ⟨#[]⟩, ⟨#[]⟩⟩⟩
instance : Inhabited Dot := ⟨⟨0, 0⟩⟩
instance : Flat Fact where
  vs f := [.int .i64 f.dot.r, .int .i64 f.dot.n, .int .i64 f.stamp.wall, .int .i64 f.stamp.count, .int .i64 f.stamp.who, .int .i64 f.kind, .string f.name, .string f.value]
  c _ := rfl
  one b v hv := by simp at hv; rcases hv with rfl | rfl | rfl | rfl | rfl | rfl | rfl | rfl <;> rfl
  pos := by decide
instance : Flat Dot where
  vs f := [.int .i64 f.r, .int .i64 f.n]
  c _ := rfl
  one b v hv := by simp at hv; rcases hv with rfl | rfl <;> rfl
  pos := by decide
instance : Sca Dot where
  sc b x hx := by simp at hx; rcases hx with rfl | rfl <;> exact ⟨_, rfl⟩
  dc xs b h := by
    simp only [Cell.d] at h
    split at h
    · cases h; rfl
    · cases h
  pos := by decide

/-- slices.SortFunc[Fact] by register.order -/
def regSort (l : List Fact) : List Fact := sortBy regOrder l
def s164 (l : List Fact) : Option (List Fact) := if l.length ≤ 1048576 then some (regSort l) else none
theorem regSort_length (l : List Fact) : (regSort l).length = l.length := (sortBy_both good_reg.swo l).1.length_eq
theorem c164 : InPl Try.prog 164 ([183].map fun g => .func (.func g) #[] #[]) 111 s164 :=
  inPl_sort (β := Fact) Try.sortFact Try.isAgg111 Try.sizeOf111 good_reg.swo c183 n183 (fun _ => rfl) (by decide)
theorem n164 : Enters Try.prog 164 := Go.Proofs.enters_of Try.func164 (by kernel_rfl) rfl

/-- register.All -/
def regAll (l : List Fact) : List ByteArray := (regSort l).map (·.value)
def s97 (l : List Fact) : Option (List ByteArray) := if l.length ≤ lim then some (regAll l) else none
abbrev E97 : Env := mkE ty [] [] [(163, hG 111 (gn1 s163)), (164, hP true 111 [183] s164)]
theorem E97ok : EnvOk Try.prog E97 := mkE_ok tyOk (by simp) (by simp)
  (by simp only [List.mem_cons, List.not_mem_nil, or_false, forall_eq_or_imp, forall_eq]; exact ⟨⟨c163.heap (by decide), n163, hG_frame _ _⟩, c164.heap true (by decide), n164, hP_frame _ _ _ _⟩)
theorem c97 : FreshC Try.prog 97 9 (gn1 s97) := by
  refine fresh1 E97ok mixed Try.func97 rfl rfl (by decide) fun l l' hs hf => ?_
  unfold s97 at hs
  split at hs
  · rename_i hlim
    cases hs
    simp [lim] at hlim
    simp [Try.f97, s163, lim, hlim, s164]
    unfold regAll
    have hlen := regSort_length l
    generalize regSort l = q at *
    refine ac_loop (A := Nat × Nat × Nat) (fun a => a.1 ≤ q.length ∧ ((a.2.1 = 9 ∧ a.2.2 = 1) ∨ (a.2.1 = 0 ∧ a.2.2 = 0))) (fun a => q.length - a.1) 3
      (fun a => [(4, .own 2 a.1), (11, .own 1 0), (12, .p (I q.length)), (13, .p (I a.1))])
      (fun a => [.row 0 0 0 [], .row 111 8 0 (q.map Cell.c), .row a.2.1 a.2.2 a.1 (((q.take a.1).map (·.value)).map Cell.c)]) [4, 11, 12, 13] (fun _ => rfl) (0, 0, 0) (Nat.zero_le _) (fun _ => by simp) (by simp) ?_
    rintro ⟨i, e, k⟩ ⟨hi, ho⟩ _
    simp only at hi ho
    have he : e < 4294967296 := by omega
    by_cases h : i < q.length
    · have hw := wrap64 (n := i + 1) (by omega) (by omega)
      have hmin : min i q.length = i := by omega
      simp [h, hmin]
      refine ⟨⟨by omega, by omega, by omega⟩, ?_⟩
      have hts := List.take_succ_eq_append_getElem (l := q.map (Cell.c ∘ fun (x : Fact) => x.value)) (i := i) (by simpa using h)
      simp only [List.getElem_map, Function.comp_apply, c_str] at hts
      exact .mk (i + 1, 9, 1) (by simp; omega) ⟨h, .inl ⟨rfl, rfl⟩⟩ (by simp [hw, hts])
    · simp [h]
      have : i = q.length := by omega
      refine ⟨List.take_of_length_le (by simp; omega), ?_⟩
      rcases ho with ⟨rfl, rfl⟩ | ⟨rfl, rfl⟩
      · exact .inl ⟨rfl, rfl⟩
      · exact .inr rfl
  · cases hs
theorem n97 : Enters Try.prog 97 := Go.Proofs.enters_of Try.func97 (by kernel_rfl) rfl

end Go.Proofs.Av
