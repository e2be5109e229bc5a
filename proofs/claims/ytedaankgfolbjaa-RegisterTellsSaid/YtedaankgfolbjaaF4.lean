/- Strings sorted, and packed. -/
import Derived.Test.YtedaankgfolbjaaF3
import Derived.Test.YtedaankgfolbjaaAv22
import Derived.Test.YtedaankgfolbjaaAv23
import Derived.Test.YtedaankgfolbjaaShelf
set_option linter.unusedVariables false
set_option linter.unusedSimpArgs false
namespace Go.Proofs.Av
open Go.Proofs Go.Sort Go.RowKit

/-- slices.Sort[string] -/
def sortStr (l : List ByteArray) : List ByteArray := ((l.map ByteArray.toList).mergeSort fun x y => decide (x ≤ y)).map ofBytes
def s185 (l : List ByteArray) : Option (List ByteArray) := if l.length ≤ lim then some (sortStr l) else none
theorem c185 : InPl Try.prog 185 (([] : List FuncId).map fun g => .func (.func g) #[] #[]) 9 s185 := by
  intro base w v l l' hs hbase hrow
  unfold s185 at hs
  split at hs
  case isFalse => cases hs
  rename_i hlim
  simp [lim] at hlim
  cases hs
  have he : ety 9 = 9 := ety_small (by decide)
  rcases hrow with ⟨h0, _⟩ | ⟨hk, xs, ho, h1, h2, h3⟩
  · cases h0
  rw [he] at ho
  have hxs : xs = l.map Value.string := by
    refine List.ext_getElem? fun i => ?_
    by_cases hi : i < l.length
    · obtain ⟨u, hu, hrep⟩ := h3 i 0 (Cell.c l[i]) (.sc (.string l[i])) (by simp [hi]) rfl
      simp at hu
      rw [hu, hrep.scv]
      simp [hi]
    · have hl := ho.1
      simp at hl
      rw [List.getElem?_eq_none (by omega), List.getElem?_eq_none (by simp; omega)]
  subst hxs
  have hlen : (sortStr l).length = l.length := by simp [sortStr]
  have fin : ∀ w', w'.ownsRow base 9 1 v l.length ((sortStr l).map Value.string) → RowOk base noS w' v 9 (Cell.n ByteArray) ((sortStr l).map Cell.c) := by
    intro w' hw
    refine .inr ⟨by decide, _, by rw [he]; simpa [hlen] using hw, fun x hx => ?_, fun el hel => ?_, fun i j el x hi hx => ?_⟩
    · obtain ⟨s, _, rfl⟩ := List.mem_map.1 hx; rfl
    · obtain ⟨s, _, rfl⟩ := List.mem_map.1 hel; rfl
    · obtain ⟨s, hs, rfl⟩ := map_getElem? _ _ _ _ hi
      have hj : j = 0 := by
        have := (List.getElem?_eq_some_iff.1 hx).1
        simp at this; exact this
      subst hj
      simp at hx
      subst hx
      exact ⟨.string s, by simp [hs], .sc rfl⟩
  rcases ho.2 with ⟨rfl, hn⟩ | ⟨g, cap, cur, rfl, hbg, hg, hnc, hcm, hcs, htake⟩
  · have hl0 : l = [] := List.eq_nil_of_length_eq_zero (by simpa using hn)
    subst hl0
    refine (Try.slices_Sort_string_none none 0 w).mono fun r w' ⟨hr, hw⟩ => ?_
    subst hw
    refine ⟨hr, ⟨rfl, rfl, rfl, Nat.le_refl _, fun _ _ _ => rfl⟩, Nat.le_refl _, fin _ ?_⟩
    have : sortStr [] = [] := by simp [sortStr]
    rw [this]
    exact World.ownsRow_nil _ _ _ _
  · simp only [List.length_map] at hnc htake fin ⊢
    have hH : Holds encStr w g 0 (l.map ByteArray.toList).toArray := by
      refine holds_row encStr (n := l.length) (cap := cap) hg (by simp) ?_
      have : cur.toList.take l.length = l.map Value.string := by simpa using htake
      rw [this]
      simp
      intro b _
      have := ofBytes_toList b
      simp [ofBytes] at this
      rw [this]
    have hc := Try.slices_Sort_string g 0 cap (l.map ByteArray.toList) w hH (Array.getElem?_eq_some_iff.1 hg).1 (by simp; omega)
    simp only [List.length_map] at hc
    show Calls Try.prog 185 #[.slice (some ⟨g, 0, none⟩) l.length cap] w _
    refine hc.mono ?_
    rintro r w' ⟨hr, n, os, hw⟩
    rw [putRow_map] at hw
    obtain ⟨k1, k2, k3⟩ := put_row (k := 1) (n := l.length) hbg hg hnc hcm (by simpa using hcs) n ((List.mergeSort (l.map ByteArray.toList) fun x y => decide (x ≤ y)).toArray.map encStr) os (by simp)
    subst hw
    have hout : ((List.mergeSort (l.map ByteArray.toList) fun x y => decide (x ≤ y)).toArray.map encStr).toList = (sortStr l).map Value.string := by
      unfold sortStr
      rw [Array.toList_map, List.map_map]
      rfl
    rw [hout] at k3
    exact ⟨hr, k1, k2, fin _ k3⟩
theorem n185 : Enters Try.prog 185 := Go.Proofs.enters_of Try.func185 (by kernel_rfl) rfl

theorem ownsRow_shrink {w : World} {base e k n m g cap : Nat} {xs : List Value} (h : w.ownsRow base e k (.slice (some ⟨g, 0, none⟩) n cap) n xs) (hm : m ≤ n) : w.ownsRow base e k (.slice (some ⟨g, 0, none⟩) m cap) m (xs.take (m * k)) := by
  have hle : m * k ≤ n * k := Nat.mul_le_mul_right k hm
  rcases h.2 with ⟨h0, _⟩ | ⟨g', cap', cur, hv, hbg, hg, hnc, hcm, hcs, htake⟩
  · cases h0
  · cases hv
    refine ⟨by have := h.1; simp; omega, .inr ⟨g, cap, cur, rfl, hbg, hg, by omega, hcm, hcs, ?_⟩⟩
    rw [← htake, List.take_take]
    congr 1
    omega

/-- slices.Compact[string] -/
def packStr (l : List ByteArray) : List ByteArray := (Lib.compact (l.map ByteArray.toList)).map ofBytes
def s186 (l : List ByteArray) : Option (List ByteArray) := if l.length ≤ lim then some (packStr l) else none
theorem compact_le (zs : List (List UInt8)) : (Lib.compact zs).length ≤ zs.length := by
  unfold Lib.compact Lib.compactUpTo
  rw [List.length_map]
  exact Nat.le_trans (List.length_filter_le _ _) (by simp)
theorem c186 : OutPl Try.prog 186 (([] : List FuncId).map fun g => .func (.func g) #[] #[]) 9 s186 := by
  intro base w v l l' hs hbase hrow
  unfold s186 at hs
  split at hs
  case isFalse => cases hs
  rename_i hlim
  simp [lim] at hlim
  cases hs
  have he : ety 9 = 9 := ety_small (by decide)
  rcases hrow with ⟨h0, _⟩ | ⟨hk, xs, ho, h1, h2, h3⟩
  · cases h0
  rw [he] at ho
  have hxs : xs = l.map Value.string := by
    refine List.ext_getElem? fun i => ?_
    by_cases hi : i < l.length
    · obtain ⟨u, hu, hrep⟩ := h3 i 0 (Cell.c l[i]) (.sc (.string l[i])) (by simp [hi]) rfl
      simp at hu
      rw [hu, hrep.scv]
      simp [hi]
    · have hl := ho.1
      simp at hl
      rw [List.getElem?_eq_none (by omega), List.getElem?_eq_none (by simp; omega)]
  subst hxs
  have fin : ∀ w' v', w'.ownsRow base 9 1 v' (packStr l).length ((packStr l).map Value.string) → RowOk base noS w' v' 9 (Cell.n ByteArray) ((packStr l).map Cell.c) := by
    intro w' v' hw
    refine .inr ⟨by decide, _, by rw [he]; simpa using hw, fun x hx => ?_, fun el hel => ?_, fun i j el x hi hx => ?_⟩
    · obtain ⟨s, _, rfl⟩ := List.mem_map.1 hx; rfl
    · obtain ⟨s, _, rfl⟩ := List.mem_map.1 hel; rfl
    · obtain ⟨s, hs, rfl⟩ := map_getElem? _ _ _ _ hi
      have hj : j = 0 := by
        have := (List.getElem?_eq_some_iff.1 hx).1
        simp at this; exact this
      subst hj
      simp at hx
      subst hx
      exact ⟨.string s, by simp [hs], .sc rfl⟩
  rcases ho.2 with ⟨rfl, hn⟩ | ⟨g, cap, cur, rfl, hbg, hg, hnc, hcm, hcs, htake⟩
  · have hl0 : l = [] := List.eq_nil_of_length_eq_zero (by simpa using hn)
    subst hl0
    refine (Try.slices_Compact_string_empty none 0 w).mono fun r w' ⟨hr, hw⟩ => ?_
    subst hw
    refine ⟨_, hr, .inl rfl, ⟨rfl, rfl, rfl, Nat.le_refl _, fun _ _ _ => rfl⟩, Nat.le_refl _, fin _ _ ?_⟩
    have : packStr [] = [] := by simp [packStr, Lib.compact, Lib.compactUpTo]
    rw [this]
    exact World.ownsRow_nil _ _ _ _
  · simp only [List.length_map] at hnc htake fin ⊢
    have hH : Holds encStr w g 0 (l.map ByteArray.toList).toArray := by
      refine holds_row encStr (n := l.length) (cap := cap) hg (by simp) ?_
      have : cur.toList.take l.length = l.map Value.string := by simpa using htake
      rw [this]
      simp
      intro b _
      have := ofBytes_toList b
      simp [ofBytes] at this
      rw [this]
    have hc := Try.slices_Compact_string g 0 cap (l.map ByteArray.toList) w hH (by simp; omega) (by simpa using hnc)
    simp only [List.length_map] at hc
    have hle := compact_le (l.map ByteArray.toList)
    simp only [List.length_map] at hle
    show Calls Try.prog 186 #[.slice (some ⟨g, 0, none⟩) l.length cap] w _
    refine hc.mono ?_
    rintro r w' ⟨hr, n, hw⟩
    rw [putRow_map, ← grow_empty (putRow id _ _ _ _)] at hw
    obtain ⟨k1, k2, k3⟩ := put_row (k := 1) (n := l.length) hbg hg hnc hcm (by simpa using hcs) n ((Lib.compact (l.map ByteArray.toList) ++ List.replicate (l.length - (Lib.compact (l.map ByteArray.toList)).length) []).toArray.map encStr) #[] (by simp; omega)
    subst hw
    refine ⟨_, hr, .inl rfl, k1, k2, fin _ _ ?_⟩
    have k4 := ownsRow_shrink k3 hle
    have hout : List.take ((Lib.compact (l.map ByteArray.toList)).length * 1) ((Lib.compact (l.map ByteArray.toList) ++ List.replicate (l.length - (Lib.compact (l.map ByteArray.toList)).length) []).toArray.map encStr).toList = (packStr l).map Value.string := by
      unfold packStr
      rw [Array.toList_map, List.map_map, Nat.mul_one, List.map_append, List.take_left' (by simp)]
      rfl
    rw [hout] at k4
    simpa [packStr] using k4
theorem n186 : Enters Try.prog 186 := Go.Proofs.enters_of Try.func186 (by kernel_rfl) rfl

end Go.Proofs.Av
