/- The relation between the abstract memory and a world, and what keeps it. -/
import Derived.Test.YtedaankgfolbjaaAv2
namespace Go.Proofs.Av
open Go.RowKit

/-- Below 'base' nothing has turned but the blocks of M. -/
structure Fr (base : Nat) (M : Nat → Prop) (w w' : World) : Prop where
  os : w'.os = w.os
  tape : w'.tape = w.tape
  output : w'.output = w.output
  size : w.heap.size ≤ w'.heap.size
  block : ∀ k, k < base → ¬ M k → w'.heap[k]? = w.heap[k]?
  drawn : w.drawn ≤ w'.drawn

theorem Fr.refl (base : Nat) (M : Nat → Prop) (w : World) : Fr base M w w := ⟨rfl, rfl, rfl, Nat.le_refl _, fun _ _ _ => rfl, Nat.le_refl _⟩
theorem Fr.trans {base : Nat} {M : Nat → Prop} {a b c : World} (h : Fr base M a b) (k : Fr base M b c) : Fr base M a c :=
  ⟨k.os.trans h.os, k.tape.trans h.tape, k.output.trans h.output, Nat.le_trans h.size k.size, fun i hi hm => (k.block i hi hm).trans (h.block i hi hm), Nat.le_trans h.drawn k.drawn⟩
theorem Fr.of_below {base : Nat} {M : Nat → Prop} {a b : World} (h : Bel a.heap.size a b) (hb : base ≤ a.heap.size) : Fr base M a b :=
  ⟨h.os, h.tape, h.output, h.size, fun k hk _ => h.block k (Nat.lt_of_lt_of_le hk hb), h.drawn⟩

def stb (G : Stb) (hp : List HObj) (bl : Nat → Option Nat) (rv : Nat → Value) : Stb := fun b o =>
  G b o ∧ (∀ i, bl i ≠ some b) ∧ ∀ (i : Nat) e k ver es, hp[i]? = some (.row e k ver es) → (rv i).ownBlock = some b → e < raw0 ∧ o < es.length * k

def rwOf (hp : List HObj) (rv : Nat → Value) : Nat → Option (Nat × Value) := fun i =>
  match hp[i]? with
  | some (.row _ _ ver _) => some (ver, rv i)
  | _ => none

def cx (G : Stb) (hp : List HObj) (bl : Nat → Option Nat) (rv : Nat → Value) (w : World) : Cx := ⟨stb G hp bl rv, w, bl, rwOf hp rv⟩

theorem rwOf_row {hp : List HObj} {rv : Nat → Value} {i e k ver : Nat} {es : List (List PV)} (h : hp[i]? = some (.row e k ver es)) : rwOf hp rv i = some (ver, rv i) := by
  simp [rwOf, h]
theorem rwOf_some {hp : List HObj} {rv : Nat → Value} {i ver : Nat} {v : Value} (h : rwOf hp rv i = some (ver, v)) : v = rv i ∧ ∃ e k es, hp[i]? = some (.row e k ver es) := by
  unfold rwOf at h
  split at h
  · rename_i e k ver' es hh
    simp only [Option.some.injEq, Prod.mk.injEq] at h
    obtain ⟨rfl, rfl⟩ := h
    exact ⟨rfl, e, k, es, hh⟩
  · cases h

/-- A growing slice in memory. -/
def RowOk (base : Nat) (S : Stb) (w : World) (v : Value) (e k : Nat) (es : List (List PV)) : Prop :=
  (k = 0 ∧ es = [] ∧ v = .slice none 0 0) ∨
  (0 < k ∧ ∃ xs, w.ownsRow base (ety e) k v es.length xs ∧ (∀ x ∈ xs, x.oneCell' = true) ∧ (∀ el ∈ es, el.length = k) ∧
    ∀ (i j : Nat) el x, es[i]? = some el → el[j]? = some x → ∃ u, xs[i * k + j]? = some u ∧ RepP S w u x)

structure RelH (G : Stb) (base : Nat) (M : Nat → Prop) (w0 : World) (hp : List HObj) (bl : Nat → Option Nat) (rv : Nat → Value) (w : World) : Prop where
  fr : Fr base M w0 w
  hG : ∀ b o, base ≤ b → G b o
  hb : base ≤ w.heap.size
  box : ∀ (i : Nat) cs, hp[i]? = some (.box cs) → ∃ (B : Nat) (arr : Array Value) (e : TypeId), bl i = some B ∧ w.heap[B]? = some (.cells arr e (0, 0)) ∧ cs.length ≤ arr.size ∧
    (∀ (j : Nat) v c, arr[j]? = some v → cs[j]? = some c → v.oneCell' = true ∧ RepA (cx G hp bl rv w) v c) ∧ (base ≤ B ∨ M B)
  row : ∀ (i : Nat) e k ver es, hp[i]? = some (.row e k ver es) → RowOk base (stb G hp bl rv) w (rv i) e k es
  only : ∀ i B, bl i = some B → ∃ cs, hp[i]? = some (.box cs)
  inj : ∀ i j B, bl i = some B → bl j = some B → i = j
  rinj : ∀ (i j : Nat) e k v es e' k' v' es' b, hp[i]? = some (.row e k v es) → hp[j]? = some (.row e' k' v' es') → (rv i).ownBlock = some b → (rv j).ownBlock = some b → i = j
  brow : ∀ (i j : Nat) e k v es B, hp[i]? = some (.row e k v es) → (rv i).ownBlock = some B → bl j ≠ some B
  ng : ∀ (i : Nat) cs, hp[i]? = some (.box cs) → ∀ c ∈ cs, c.ng = true

section
variable {G : Stb} {base : Nat} {M : Nat → Prop} {w0 w : World} {hp : List HObj} {bl : Nat → Option Nat} {rv : Nat → Value}

theorem RelH.bl_lt (h : RelH G base M w0 hp bl rv w) {i B : Nat} (hB : bl i = some B) : B < w.heap.size ∧ i < hp.length := by
  obtain ⟨cs, hcs⟩ := h.only i B hB
  obtain ⟨B', arr, e, h1, h2, _⟩ := h.box i cs hcs
  rw [hB] at h1
  cases h1
  exact ⟨(Array.getElem?_eq_some_iff.1 h2).1, (List.getElem?_eq_some_iff.1 hcs).1⟩

theorem RowOk.lt {S : Stb} {v : Value} {e k : Nat} {es : List (List PV)} (h : RowOk base S w v e k es) {b : Nat} (hb : v.ownBlock = some b) : b < w.heap.size ∧ base ≤ b := by
  rcases h with ⟨_, _, rfl⟩ | ⟨_, xs, ho, _⟩
  · simp [Value.ownBlock] at hb
  · rcases ho.2 with ⟨rfl, _⟩ | ⟨g, cap, cur, rfl, hbg, hg, _⟩
    · simp [Value.ownBlock] at hb
    · simp [Value.ownBlock] at hb
      subst hb
      exact ⟨(Array.getElem?_eq_some_iff.1 hg).1, hbg⟩

/-- A new block is no one's yet. -/
theorem RelH.fresh (h : RelH G base M w0 hp bl rv w) {b : Nat} (hb : w.heap.size ≤ b) (o : Nat) : stb G hp bl rv b o := by
  refine ⟨h.hG b o (Nat.le_trans h.hb hb), fun i hi => ?_, fun i e k ver es hr ho => ?_⟩
  · have := (h.bl_lt hi).1; omega
  · have := ((h.row i e k ver es hr).lt ho).1; omega

theorem cell_lt {w : World} {b o : Nat} {u : Value} (h : w.cell? ⟨b, o, none⟩ = some u) : b < w.heap.size := World.block_lt_of_cell? w ⟨b, o, none⟩ h

/-- What was there is there: the abstract memory does not turn. -/
theorem RelH.below (h : RelH G base M w0 hp bl rv w) {w' : World} (hw : Bel w.heap.size w w') :
    RelH G base M w0 hp bl rv w' ∧ (cx G hp bl rv w).le (cx G hp bl rv w') := by
  have hle : (cx G hp bl rv w).le (cx G hp bl rv w') := by
    refine ⟨fun b o u s c => ⟨s, ?_⟩, fun _ _ h => h, fun r ver val hr => ⟨ver, val, hr, Nat.le_refl _, fun _ => rfl⟩⟩
    exact (hw.cell (p := ⟨b, o, none⟩) (cell_lt c)).trans c
  refine ⟨⟨h.fr.trans (.of_below hw h.hb), h.hG, Nat.le_trans h.hb hw.size, ?_, ?_, h.only, h.inj, h.rinj, h.brow, h.ng⟩, hle⟩
  · intro i cs hcs
    obtain ⟨B, arr, e, h1, h2, h3, h4, h5⟩ := h.box i cs hcs
    refine ⟨B, arr, e, h1, (hw.block B (h.bl_lt h1).1).trans h2, h3, fun j v c hv hc => ⟨(h4 j v c hv hc).1, (h4 j v c hv hc).2.le hle⟩, h5⟩
  · intro i e k ver es hr
    have hro := h.row i e k ver es hr
    rcases hro with h0 | ⟨hk, xs, ho, h1, h2, h3⟩
    · exact .inl h0
    · refine .inr ⟨hk, xs, ?_, h1, h2, fun a b el x he hx => ?_⟩
      · refine ho.kept (row := none) ⟨hw.os, hw.tape, hw.output, hw.size, fun k hk _ => hw.block k hk⟩ ?_
        cases (rv i).ownBlock <;> simp
      · obtain ⟨u, hu, hrep⟩ := h3 a b el x he hx
        exact ⟨u, hu, RepP.le (C := cx G hp bl rv w) (C' := cx G hp bl rv w') hle hrep⟩

end
end Go.Proofs.Av
