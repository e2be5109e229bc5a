/- What is read as data, at the program's types. -/
import Derived.Test.YtedaankgfolbjaaTyE
import Derived.Test.YtedaankgfolbjaaD1
import Derived.Test.YtedaankgfolbjaaAv26
import Derived.ChangeOld
import Derived.ShutString
set_option linter.unusedVariables false
set_option linter.unusedSimpArgs false
namespace Go.Proofs.Av
open Go.Proofs Go.RowKit Go.WideShapes

section
variable {H : Type} {enc : TypeId × Value → H} {P : Program} {W : World} {base : Nat} {v : Value} {t : TypeId} {d : DataW H} {p : List MemPlace}
theorem arg_slice {e : TypeId} {α : Type} [Cell α] (hu : P.underlying t = some (.slice e)) (hok : Value.okWide P W .any base t v) (h : DataW.Trod enc P W 0 (fun _ => true) true t v d p) (hr : Rd P t (List α)) : ∃ a : List α, RepP allS W v (Ty.e a) := by
  obtain ⟨a0, len, cap, rfl⟩ := okWide_slice hu hok
  obtain ⟨n, hn⟩ := h
  obtain ⟨⟨a, ha⟩, _⟩ := hr _ _ _ _ _ _ _ _ _ hn
  exact ⟨a, ha.2 0 _ _ rfl rfl⟩
theorem arg_int (hu : P.underlying t = some (.int .i64)) (hok : Value.okWide P W .any base t v) : ∃ a : Int, RepP allS W v (Ty.e a) := by
  obtain ⟨n, rfl⟩ := okWide_int hu hok
  exact ⟨n, .sc rfl⟩
theorem arg_str (hu : P.underlying t = some .string) (hok : Value.okWide P W .any base t v) : ∃ a : ByteArray, RepP allS W v (Ty.e a) := by
  obtain ⟨n, rfl⟩ := okWide_string hu hok
  exact ⟨n, .sc rfl⟩
theorem arg_struct {fs : Array Field} {α : Type} [Cell α] (hu : P.underlying t = some (.struct fs)) (hok : Value.okWide P W .any base t v) (h : DataW.Trod enc P W 0 (fun _ => true) true t v d p) (hr : Rd P t α) : ∃ a : α, RepP allS W v (.agg (Cell.c a)) := by
  unfold Value.okWide at hok
  simp only [hu] at hok
  obtain ⟨cs, rfl, _, _⟩ := hok
  obtain ⟨n, hn⟩ := h
  obtain ⟨⟨a, ha⟩, h1⟩ := hr _ _ _ _ _ _ _ _ _ hn
  simp only [Value.cells] at ha h1
  exact ⟨a, .agg ha.1 h1 ha.2⟩
end

theorem rd_i : Rd Try.prog 3 Int := rd_int Try.underlying3
theorem rd_s : Rd Try.prog 9 ByteArray := rd_str Try.underlying9
theorem rd_dot : Rd Try.prog 23 Dot := by
  intro H enc w base spare held n cs x h
  obtain ⟨hl, hf⟩ := rd_parts Try.underlying23 h
  obtain ⟨⟨a0, r0⟩, o0⟩ := rd_part (o := 0) (k := 1) rd_i (by kernel_rfl) (.head _) ⟨rfl, rfl⟩ hf
  obtain ⟨⟨a1, r1⟩, o1⟩ := rd_part (o := 1) (k := 1) rd_i (by kernel_rfl) (.tail _ (.head _)) ⟨rfl, rfl⟩ hf
  have hl : cs.length = 2 := hl.trans (by kernel_rfl)
  have he : cs.drop (1 + 1) = [] := List.drop_eq_nil_of_le (by omega)
  have hr := Reps.seg r0 (Reps.seg r1 (by rw [he]; exact .nil))
  have ho := ones_seg o0 (ones_seg o1 (by rw [he]; simp))
  exact ⟨⟨⟨a0, a1⟩, hr⟩, ho⟩
theorem rd_stamp : Rd Try.prog 25 Stamp := by
  intro H enc w base spare held n cs x h
  obtain ⟨hl, hf⟩ := rd_parts Try.underlying25 h
  obtain ⟨⟨a0, r0⟩, o0⟩ := rd_part (o := 0) (k := 1) rd_i (by kernel_rfl) (.head _) ⟨rfl, rfl⟩ hf
  obtain ⟨⟨a1, r1⟩, o1⟩ := rd_part (o := 1) (k := 1) rd_i (by kernel_rfl) (.tail _ (.head _)) ⟨rfl, rfl⟩ hf
  obtain ⟨⟨a2, r2⟩, o2⟩ := rd_part (o := 2) (k := 1) rd_i (by kernel_rfl) (.tail _ (.tail _ (.head _))) ⟨rfl, rfl⟩ hf
  have hl : cs.length = 3 := hl.trans (by kernel_rfl)
  have he : cs.drop (2 + 1) = [] := List.drop_eq_nil_of_le (by omega)
  have hr := Reps.seg r0 (Reps.seg r1 (Reps.seg r2 (by rw [he]; exact .nil)))
  have ho := ones_seg o0 (ones_seg o1 (ones_seg o2 (by rw [he]; simp)))
  exact ⟨⟨⟨a0, a1, a2⟩, hr⟩, ho⟩
theorem rd_fact : Rd Try.prog 111 Fact := by
  intro H enc w base spare held n cs x h
  obtain ⟨hl, hf⟩ := rd_parts Try.underlying111 h
  obtain ⟨⟨a0, r0⟩, o0⟩ := rd_part (o := 0) (k := 2) rd_dot (by kernel_rfl) (.head _) ⟨rfl, rfl⟩ hf
  obtain ⟨⟨a1, r1⟩, o1⟩ := rd_part (o := 2) (k := 3) rd_stamp (by kernel_rfl) (.tail _ (.head _)) ⟨rfl, rfl⟩ hf
  obtain ⟨⟨a2, r2⟩, o2⟩ := rd_part (o := 5) (k := 1) rd_i (by kernel_rfl) (.tail _ (.tail _ (.head _))) ⟨rfl, rfl⟩ hf
  obtain ⟨⟨a3, r3⟩, o3⟩ := rd_part (o := 6) (k := 1) rd_s (by kernel_rfl) (.tail _ (.tail _ (.tail _ (.head _)))) ⟨rfl, rfl⟩ hf
  obtain ⟨⟨a4, r4⟩, o4⟩ := rd_part (o := 7) (k := 1) rd_s (by kernel_rfl) (.tail _ (.tail _ (.tail _ (.tail _ (.head _))))) ⟨rfl, rfl⟩ hf
  have hl : cs.length = 8 := hl.trans (by kernel_rfl)
  have he : cs.drop (7 + 1) = [] := List.drop_eq_nil_of_le (by omega)
  have hr := Reps.seg r0 (Reps.seg r1 (Reps.seg r2 (Reps.seg r3 (Reps.seg r4 (by rw [he]; exact .nil)))))
  have ho := ones_seg o0 (ones_seg o1 (ones_seg o2 (ones_seg o3 (ones_seg o4 (by rw [he]; simp)))))
  exact ⟨⟨⟨a0, a1, a2, a3, a4⟩, hr⟩, ho⟩
theorem rd_facts : Rd Try.prog 26 (List Fact) := rd_slice Try.underlying26 (by kernel_rfl) (by decide) rd_fact
theorem rd_dots : Rd Try.prog 27 (List Dot) := rd_slice Try.underlying27 (by kernel_rfl) (by decide) rd_dot

end Go.Proofs.Av
