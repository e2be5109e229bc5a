/- What is read as data stands for typed things. -/
import Derived.Test.YtedaankgfolbjaaAv18
import Derived.Deep.Slices
import Derived.OpenShut
set_option linter.unusedVariables false
set_option linter.unusedSimpArgs false
namespace Go.Proofs.Av
open Go.RowKit

instance {α : Type} [Cell α] : Cell (List α) where
  n := 1
  c l := [eL l]
  d | [x] => Ty.d x
    | _ => none
  len _ := rfl
  dc l := Ty.de l
  rep {S w vs xs a} h k := by
    split at h
    · rename_i x
      refine ⟨by have := k.1; simpa using this, fun i v y hv hy => ?_⟩
      cases i with
      | zero => simp at hy; subst hy; exact Ty.rep (α := List α) h (k.2 0 v x hv rfl)
      | succ i => simp at hy
    · cases h
instance : Cell Bool where
  n := 1
  c a := [.sc (.bool a)]
  d | [.sc (.bool a)] => some a
    | _ => none
  len _ := rfl
  dc _ := rfl
  rep {S w vs xs a} h k := by
    split at h
    · cases h; exact k
    · cases h

abbrev allS : Stb := fun _ _ => True

/-- What is read at a type stands for something. -/
def Rd (P : Program) (t : TypeId) (α : Type) [Cell α] : Prop :=
  ∀ (H : Type) (enc : TypeId × Value → H) (w : World) (base : Nat) (spare : Nat → Bool) (held : Bool) (n : Nat) (cs : List Value) (x : DataW H × List MemPlace), DataW.trod enc P w base spare held n t cs = some x →
    (∃ a : α, Reps (RepP allS w) cs (Cell.c a)) ∧ ∀ v ∈ cs, v.oneCell' = true

theorem mapM_len {α β : Type} {f : α → Option β} : ∀ {l : List α} {ys : List β}, l.mapM f = some ys → ys.length = l.length
  | [], ys, h => by simp at h; subst h; rfl
  | x :: l, ys, h => by
    rw [List.mapM_cons] at h
    simp only [bind, Option.bind_eq_some_iff, pure, Option.some.injEq] at h
    obtain ⟨y, _, zs, hz, rfl⟩ := h
    simp [mapM_len hz]

theorem cells_get {w : World} {base : Nat} {a : Addr} {n : Nat} {cs : List Value} (h : w.cells? base a n = some cs) : cs.length = n ∧ ∀ (j : Nat) v, cs[j]? = some v → w.cell? (a.add j) = some v := by
  unfold World.cells? at h
  split at h
  · have hl := mapM_len h
    simp at hl
    refine ⟨hl, fun j v hv => ?_⟩
    have hj : j < n := by rw [← hl]; exact (List.getElem?_eq_some_iff.1 hv).1
    obtain ⟨y, h1, h2⟩ := mapM_get _ _ _ h j j (by simp [hj])
    rw [hv] at h2
    cases h2
    exact h1
  · cases h

section
variable {P : Program}

theorem rd_int {t : TypeId} (hu : P.underlying t = some (.int .i64)) : Rd P t Int := by
  intro H enc w base spare held n cs x h
  cases n with
  | zero => simp [DataW.trod] at h
  | succ n =>
    unfold DataW.trod at h
    simp only [hu] at h
    split at h <;> (try cases h) <;> simp_all
    all_goals
      obtain ⟨rfl, _⟩ := h.1
      exact ⟨⟨_, .cons (.sc rfl) .nil⟩, rfl⟩

theorem rd_bool {t : TypeId} (hu : P.underlying t = some .bool) : Rd P t Bool := by
  intro H enc w base spare held n cs x h
  cases n with
  | zero => simp [DataW.trod] at h
  | succ n =>
    unfold DataW.trod at h
    simp only [hu] at h
    split at h <;> (try cases h) <;> (try simp_all; done)
    rename_i b _
    exact ⟨⟨b, .cons (.sc rfl) .nil⟩, by simp; rfl⟩

theorem rd_str {t : TypeId} (hu : P.underlying t = some .string) : Rd P t ByteArray := by
  intro H enc w base spare held n cs x h
  cases n with
  | zero => simp [DataW.trod] at h
  | succ n =>
    unfold DataW.trod at h
    simp only [hu] at h
    split at h <;> (try cases h) <;> simp_all
    exact ⟨⟨_, .cons (.sc rfl) .nil⟩, rfl⟩

theorem rd_slice {t e : TypeId} {α : Type} [Cell α] (hu : P.underlying t = some (.slice e)) (hs : P.cellsOf e = Cell.n α) (hpos : 0 < Cell.n α) (he : Rd P e α) : Rd P t (List α) := by
  intro H enc w base spare held n cs x h
  rcases Go.Deep.open_slice hu h with ⟨rfl, _⟩ | ⟨a, len, cap, m, n', D, Pl, rfl, _, hl, hm, hmm, _, hel⟩
  · refine ⟨⟨[], .cons ?_ .nil⟩, by simp; rfl⟩
    exact .sl 0 0 (fun _ _ => undef) rfl (Nat.le_refl _) (by simp [maxLen]) (fun h => absurd h (Nat.lt_irrefl 0)) (by simp) (by simp) (by simp)
  · have hlm : len ≤ m := by rw [hmm]; split <;> omega
    have key : ∀ i, i < len → ∃ (cs' : List Value) (b : α), w.cells? base (a.add (i * P.cellsOf e)) (P.cellsOf e) = some cs' ∧ Reps (RepP allS w) cs' (Cell.c b) ∧ ∀ v ∈ cs', v.oneCell' = true := by
      intro i hi
      obtain ⟨cs', h1, h2⟩ := hel i (by omega)
      obtain ⟨⟨b, hb⟩, h3⟩ := he H enc w base spare held n' cs' _ h2
      exact ⟨cs', b, h1, hb, h3⟩
    let C : Nat → List Value := fun i => if hi : i < len then Classical.choose (key i hi) else []
    have hC : ∀ i (hi : i < len), ∃ b : α, w.cells? base (a.add (i * P.cellsOf e)) (P.cellsOf e) = some (C i) ∧ Reps (RepP allS w) (C i) (Cell.c b) ∧ ∀ v ∈ C i, v.oneCell' = true := by
      intro i hi
      have : C i = Classical.choose (key i hi) := by simp only [C, dif_pos hi]
      rw [this]
      exact Classical.choose_spec (key i hi)
    let f : (i : Fin len) → α := fun i => Classical.choose (hC i.1 i.2)
    have hf : ∀ i : Fin len, w.cells? base (a.add (i.1 * P.cellsOf e)) (P.cellsOf e) = some (C i.1) ∧ Reps (RepP allS w) (C i.1) (Cell.c (f i)) ∧ ∀ v ∈ C i.1, v.oneCell' = true := fun i => Classical.choose_spec (hC i.1 i.2)
    have hget : ∀ (i : Nat) el, ((List.ofFn f).map Cell.c)[i]? = some el → ∃ hi : i < len, el = Cell.c (f ⟨i, hi⟩) := by
      intro i el hel
      obtain ⟨b, hb, rfl⟩ := map_getElem? _ _ _ _ hel
      obtain ⟨hi, hb⟩ := List.getElem?_eq_some_iff.1 hb
      simp at hi hb
      exact ⟨hi, by rw [← hb]⟩
    have hspot : 0 < len → a = ⟨a.block, a.off, none⟩ := by
      intro h0
      obtain ⟨h1, h2, _⟩ := hf ⟨0, h0⟩
      obtain ⟨hl1, hc1⟩ := cells_get h1
      have h3 : 0 < (C 0).length := by rw [hl1, hs]; exact hpos
      have := hc1 0 (C 0)[0] (List.getElem?_eq_getElem h3)
      have hsp : a.spot = none := by
        cases hq : a.spot with
        | none => rfl
        | some b =>
          simp only [World.cell?, Addr.add, hq] at this
          split at this <;> simp_all
      cases a
      simp_all
    refine ⟨⟨List.ofFn f, .cons ?_ .nil⟩, by simp; rfl⟩
    refine .sl a.block a.off (fun i j => (C i).getD j undef) (by simp) hl hm (fun h0 => by rw [← hspot h0]) (fun el hel => ?_) (fun i j el x hel hx => ?_) (fun i j el x hel hx => ?_)
    · obtain ⟨b, _, rfl⟩ := List.mem_map.1 hel
      exact Cell.len b
    · obtain ⟨hi, rfl⟩ := hget i el hel
      obtain ⟨h1, h2, h3⟩ := hf ⟨i, hi⟩
      obtain ⟨v, hv, _⟩ := h2.get hx
      obtain ⟨_, hc⟩ := cells_get h1
      have hg : (C i).getD j undef = v := by simp only [List.getD, hv, Option.getD_some]
      have hcell := hc j v hv
      rw [hs, hspot (by omega), addr_add, addr_add] at hcell
      rw [hg]
      exact ⟨hcell, trivial, h3 v (List.mem_of_getElem? hv)⟩
    · obtain ⟨hi, rfl⟩ := hget i el hel
      obtain ⟨h1, h2, h3⟩ := hf ⟨i, hi⟩
      obtain ⟨v, hv, hr⟩ := h2.get hx
      have hg : (C i).getD j undef = v := by simp only [List.getD, hv, Option.getD_some]
      rw [hg]
      exact hr

/-- A struct's parts. -/
theorem rd_parts {t : TypeId} {fs : Array Field} (hu : P.underlying t = some (.struct fs)) {H : Type} {enc : TypeId × Value → H} {w : World} {base : Nat} {spare : Nat → Bool} {held : Bool} {n : Nat} {cs : List Value} {x : DataW H × List MemPlace} (h : DataW.trod enc P w base spare held n t cs = some x) :
    cs.length = P.cellsOf t ∧ ∀ f ∈ fs.toList, ∃ m y, DataW.trod enc P w base spare held m f.type ((cs.drop f.offset).take (P.cellsOf f.type)) = some y := by
  cases n with
  | zero => simp [DataW.trod] at h
  | succ n =>
    unfold DataW.trod at h
    simp only [hu] at h
    split at h
    · rename_i hl
      obtain ⟨ys, hy, _⟩ := Option.map_eq_some_iff.1 h
      refine ⟨hl, fun f hf => ?_⟩
      obtain ⟨i, hi⟩ := List.getElem?_of_mem hf
      obtain ⟨y, h1, _⟩ := mapM_get _ _ _ hy i f hi
      exact ⟨n, y, h1⟩
    · cases h

theorem Reps.seg {α β : Type} {R : α → β → Prop} {cs : List α} {o n : Nat} {x y : List β} (h : Reps R ((cs.drop o).take n) x) (k : Reps R (cs.drop (o + n)) y) : Reps R (cs.drop o) (x ++ y) := by
  have := h.app k
  rwa [← List.drop_drop, List.take_append_drop] at this

/-- One part of a struct. -/
theorem rd_part {e : TypeId} {α : Type} [Cell α] {k o : Nat} (hr : Rd P e α) (hk : P.cellsOf e = k) {fs : List Field} {f : Field} (hf : f ∈ fs) (hfo : f.offset = o ∧ f.type = e) {H : Type} {enc : TypeId × Value → H} {w : World} {base : Nat} {spare : Nat → Bool} {held : Bool} {cs : List Value}
    (h : ∀ f ∈ fs, ∃ m y, DataW.trod enc P w base spare held m f.type ((cs.drop f.offset).take (P.cellsOf f.type)) = some y) : (∃ a : α, Reps (RepP allS w) ((cs.drop o).take k) (Cell.c a)) ∧ ∀ v ∈ (cs.drop o).take k, v.oneCell' = true := by
  obtain ⟨m, y, hy⟩ := h f hf
  rw [hfo.1, hfo.2, hk] at hy
  exact hr _ _ _ _ _ _ _ _ _ hy

theorem ones_seg {cs : List Value} {o n : Nat} (h : ∀ v ∈ (cs.drop o).take n, v.oneCell' = true) (k : ∀ v ∈ cs.drop (o + n), v.oneCell' = true) : ∀ v ∈ cs.drop o, v.oneCell' = true := by
  intro v hv
  rw [← List.take_append_drop n (cs.drop o), List.drop_drop, List.mem_append] at hv
  rcases hv with hv | hv
  · exact h v hv
  · exact k v hv

end
end Go.Proofs.Av
