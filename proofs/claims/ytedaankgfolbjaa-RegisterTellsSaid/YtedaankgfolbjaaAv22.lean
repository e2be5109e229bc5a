/- A row of a slice that is no one else's, put anew: what the library's sorts come to. -/
import Derived.Test.YtedaankgfolbjaaAv21
import Derived.Sort.Row
import Derived.Sort.Grow
set_option linter.unusedVariables false
set_option linter.unusedSimpArgs false
namespace Go.Proofs.Av
open Go.RowKit Go.Sort

theorem put_row {base : Nat} {w : World} {e k n : Nat} {g cap : Nat} {cur : Array Value} (hb : base ≤ g) (hg : w.heap[g]? = some (.cells cur e (0, 0))) (hn : n ≤ cap) (hm : cap ≤ maxLen) (hc : cur.size = cap * k)
    (q : Nat) (F : Array Value) (os : Array Obj) (hF : F.size = n * k) :
    let w' := grow (putRow id (Sort.ahead w q) g 0 F) os
    w.grownBy w' (some g) ∧ w.drawn ≤ w'.drawn ∧ w'.ownsRow base e k (.slice (some ⟨g, 0, none⟩) n cap) n F.toList := by
  intro w'
  have hgl : g < w.heap.size := (Array.getElem?_eq_some_iff.1 hg).1
  have hle : n * k ≤ cap * k := Nat.mul_le_mul_right k hn
  have hheap : ∀ j, j < w.heap.size → w'.heap[j]? = (putRow id (Sort.ahead w q) g 0 F).heap[j]? := by
    intro j hj
    show ((putRow id (Sort.ahead w q) g 0 F).heap ++ os)[j]? = _
    rw [Array.getElem?_append_left (by simpa using hj)]
  refine ⟨⟨rfl, rfl, rfl, ?_, fun j hj hne => ?_⟩, (Nat.le_add_right w.drawn q : w.drawn ≤ w.drawn + q), ⟨by simpa using hF, .inr ⟨g, cap, putCells id 0 F cur, rfl, hb, ?_, hn, hm, ?_, ?_⟩⟩⟩
  · show w.heap.size ≤ ((putRow id (Sort.ahead w q) g 0 F).heap ++ os).size
    simp
  · rw [hheap j hj]
    simp only [putRow, mapBlock, Array.getElem?_modify]
    rw [if_neg (fun e => hne (by rw [e]))]
    rfl
  · rw [hheap g hgl]
    simp only [putRow, mapBlock, Array.getElem?_modify, if_true]
    show Option.map _ w.heap[g]? = _
    rw [hg]
    rfl
  · simp [putCells, hc]
  · refine List.ext_getElem? fun j => ?_
    rw [List.getElem?_take]
    by_cases hj : j < n * k
    · rw [if_pos hj]
      have hjc : j < cur.size := by omega
      have hjF : j < F.size := by omega
      simp [putCells, hjc, hjF]
    · rw [if_neg hj]
      rw [List.getElem?_eq_none (by simp; omega)]

theorem putRow_map {α : Type} [Inhabited α] (enc : α → Value) (w : World) (blk off : Nat) (d : Array α) : putRow enc w blk off d = putRow id w blk off (d.map enc) := by
  unfold putRow
  congr 1
  funext c
  unfold putCells
  apply Array.ext_getElem?
  intro k
  simp only [Array.getElem?_mapIdx, Array.size_map]
  cases c[k]? with
  | none => rfl
  | some x =>
    simp only [Option.map_some, Option.some.injEq]
    by_cases h : off ≤ k ∧ k < off + d.size
    · rw [if_pos h, if_pos h]
      have hk : k - off < d.size := by omega
      simp [hk]
    · rw [if_neg h, if_neg h]

/-- The row of an owned slice, as the library's sorts speak of it. -/
theorem holds_row {α : Type} [Inhabited α] (enc : α → Value) {w : World} {e n g cap : Nat} {cur : Array Value} {d : Array α} (hg : w.heap[g]? = some (.cells cur e (0, 0))) (hd : d.size = n) (ht : cur.toList.take n = d.toList.map enc) :
    Holds enc w g 0 d := by
  intro j hj
  have hj' : (cur.toList.take n)[j]? = some (enc d[j]!) := by
    rw [ht]
    simp [hj]
  rw [List.getElem?_take] at hj'
  split at hj'
  · refine ⟨?_, ?_⟩
    · simp only [World.cell?, hg]
      simpa using hj'
    · simp only [World.frozen?, hg]
      simp
  · cases hj'

end Go.Proofs.Av
