/- Orders, and lists that rise: plain laws. No program here. -/
import Derived.Lib.SlicesCompact
set_option linter.unusedVariables false
set_option linter.unusedSimpArgs false
namespace Go.Proofs.Av

/-- A strict order in which any two unlike things are apart. -/
structure Sto {α : Type} (lt : α → α → Bool) : Prop where
  irr : ∀ a, lt a a = false
  trans : ∀ a b d, lt a b = true → lt b d = true → lt a d = true
  tot : ∀ a b, a ≠ b → lt a b = true ∨ lt b a = true

abbrev Ris {α : Type} (lt : α → α → Bool) (l : List α) : Prop := l.Pairwise fun a b => lt a b = true

namespace Sto
variable {α : Type} {lt : α → α → Bool}

theorem asym (h : Sto lt) {a b : α} (hab : lt a b = true) : lt b a = false := by
  cases hb : lt b a with
  | false => rfl
  | true => have := h.trans a b a hab hb; rw [h.irr] at this; cases this
theorem ne (h : Sto lt) {a b : α} (hab : lt a b = true) : a ≠ b := fun e => by rw [e, h.irr] at hab; cases hab
theorem eq (h : Sto lt) {a b : α} (h1 : lt a b = false) (h2 : lt b a = false) : a = b := Classical.byContradiction fun hne => by
  rcases h.tot a b hne with h3 | h3
  · rw [h1] at h3; cases h3
  · rw [h2] at h3; cases h3
theorem nodup (h : Sto lt) {l : List α} (hl : Ris lt l) : l.Nodup := hl.imp fun hab => h.ne hab
/-- Lists that rise, with the same members, are the same. -/
theorem uniq (h : Sto lt) {a b : List α} (ha : Ris lt a) (hb : Ris lt b) (hm : ∀ x, x ∈ a ↔ x ∈ b) : a = b := by
  classical
  have hp : a.Perm b := (List.perm_ext_iff_of_nodup (h.nodup ha) (h.nodup hb)).2 hm
  exact List.Perm.eq_of_pairwise (le := fun x y => lt x y = true) (fun x y _ _ h1 h2 => by rw [h.asym h1] at h2; cases h2) ha hb hp

end Sto

/-- Put in behind all that are less. -/
def ins {α : Type} (lt : α → α → Bool) (x : α) (l : List α) : List α := l.takeWhile (fun y => lt y x) ++ x :: l.dropWhile (fun y => lt y x)

theorem mem_ins {α : Type} {lt : α → α → Bool} {x y : α} {l : List α} : y ∈ ins lt x l ↔ y = x ∨ y ∈ l := by
  have h : y ∈ l ↔ y ∈ l.takeWhile (fun y => lt y x) ∨ y ∈ l.dropWhile (fun y => lt y x) := by
    rw [← List.mem_append, List.takeWhile_append_dropWhile]
  unfold ins
  rw [h, List.mem_append, List.mem_cons]
  constructor
  · rintro (h | h | h)
    · exact .inr (.inl h)
    · exact .inl h
    · exact .inr (.inr h)
  · rintro (h | h | h)
    · exact .inr (.inl h)
    · exact .inl h
    · exact .inr (.inr h)

theorem mem_takeWhile_pos {α : Type} {p : α → Bool} {x : α} : ∀ {l : List α}, x ∈ l.takeWhile p → p x = true
  | [], h => by simp at h
  | y :: ys, h => by
    rw [List.takeWhile_cons] at h
    split at h
    · rename_i hp
      rcases List.mem_cons.1 h with rfl | h
      · exact hp
      · exact mem_takeWhile_pos h
    · simp at h

theorem head_dropWhile_neg {α : Type} {p : α → Bool} {y : α} {ys : List α} : ∀ {l : List α}, l.dropWhile p = y :: ys → p y = false
  | [], h => by simp at h
  | z :: zs, h => by
    rw [List.dropWhile_cons] at h
    split at h
    · exact head_dropWhile_neg h
    · rename_i hp
      cases h
      simpa using hp

theorem Sto.ins {α : Type} {lt : α → α → Bool} (h : Sto lt) {x : α} {l : List α} (hl : Ris lt l) (hx : x ∉ l) : Ris lt (ins lt x l) := by
  unfold Av.ins
  have hsplit : l.takeWhile (fun y => lt y x) ++ l.dropWhile (fun y => lt y x) = l := List.takeWhile_append_dropWhile
  have hdrop : ∀ y ∈ l.dropWhile (fun y => lt y x), lt x y = true := by
    intro y hy
    match hd : l.dropWhile (fun y => lt y x) with
    | [] => rw [hd] at hy; simp at hy
    | z :: zs =>
      have hz := head_dropWhile_neg hd
      have hzl : z ∈ l := by rw [← hsplit, hd]; simp
      have hzx : lt x z = true := by
        rcases h.tot x z (fun e => hx (by rw [e]; exact hzl)) with h1 | h1
        · exact h1
        · change lt z x = false at hz; rw [hz] at h1; cases h1
      rw [hd] at hy
      rcases List.mem_cons.1 hy with rfl | hy
      · exact hzx
      · rw [← hsplit, hd] at hl
        have := (List.pairwise_append.1 hl).2.1
        exact h.trans _ _ _ hzx (List.rel_of_pairwise_cons this hy)
  rw [← hsplit] at hl
  obtain ⟨h1, h2, h3⟩ := List.pairwise_append.1 hl
  refine List.pairwise_append.2 ⟨h1, List.pairwise_cons.2 ⟨hdrop, h2⟩, fun a ha b hb => ?_⟩
  rcases List.mem_cons.1 hb with rfl | hb
  · exact mem_takeWhile_pos (p := fun y => lt y b) ha
  · exact h3 a ha b hb

/-- Each once, rising: by putting in one behind the other. -/
def onceIn {α : Type} [DecidableEq α] (lt : α → α → Bool) (out : List α) (x : α) : List α := if x ∈ out then out else ins lt x out
def onceSort {α : Type} [DecidableEq α] (lt : α → α → Bool) (l : List α) : List α := l.foldl (onceIn lt) []

theorem Sto.onceIn {α : Type} [DecidableEq α] {lt : α → α → Bool} (h : Sto lt) {x : α} {l : List α} (hl : Ris lt l) : Ris lt (onceIn lt l x) ∧ ∀ y, y ∈ onceIn lt l x ↔ y = x ∨ y ∈ l := by
  unfold Av.onceIn
  split
  · rename_i hx
    refine ⟨hl, fun y => ⟨.inr, fun hy => ?_⟩⟩
    rcases hy with rfl | hy
    · exact hx
    · exact hy
  · rename_i hx
    exact ⟨h.ins hl hx, fun y => mem_ins⟩

theorem Sto.onceFold {α : Type} [DecidableEq α] {lt : α → α → Bool} (h : Sto lt) : ∀ (l out : List α), Ris lt out → Ris lt (l.foldl (Av.onceIn lt) out) ∧ ∀ y, y ∈ l.foldl (Av.onceIn lt) out ↔ y ∈ l ∨ y ∈ out
  | [], out, ho => ⟨ho, by simp⟩
  | x :: xs, out, ho => by
    obtain ⟨h1, h2⟩ := h.onceIn (x := x) ho
    obtain ⟨h3, h4⟩ := h.onceFold xs _ h1
    refine ⟨h3, fun y => ?_⟩
    rw [List.foldl_cons, h4, h2, List.mem_cons]
    constructor
    · rintro (h | h | h)
      · exact .inl (.inr h)
      · exact .inl (.inl h)
      · exact .inr h
    · rintro ((h | h) | h)
      · exact .inr (.inl h)
      · exact .inl h
      · exact .inr (.inr h)

theorem Sto.onceSort_ris {α : Type} [DecidableEq α] {lt : α → α → Bool} (h : Sto lt) (l : List α) : Ris lt (onceSort lt l) := (h.onceFold l [] .nil).1
theorem Sto.mem_onceSort {α : Type} [DecidableEq α] {lt : α → α → Bool} (h : Sto lt) {l : List α} {x : α} : x ∈ onceSort lt l ↔ x ∈ l := by
  have := (h.onceFold l [] .nil).2 x
  unfold onceSort
  simpa using this

/-- Neighbours that are the same, but once. -/
def pack {α : Type} [DecidableEq α] : List α → List α
  | [] => []
  | [x] => [x]
  | x :: y :: l => if x = y then pack (y :: l) else x :: pack (y :: l)

theorem pack_two {α : Type} [DecidableEq α] (x y : α) (l : List α) : pack (x :: y :: l) = if x = y then pack (y :: l) else x :: pack (y :: l) := by rw [pack]

theorem mem_pack {α : Type} [DecidableEq α] {z : α} : ∀ {l : List α}, z ∈ pack l ↔ z ∈ l
  | [] => by simp [pack]
  | [x] => by simp [pack]
  | x :: y :: l => by
    unfold pack
    split
    · rename_i e
      rw [mem_pack, e]
      simp
    · rw [List.mem_cons, mem_pack, List.mem_cons (a := z) (b := x)]

theorem Sto.pack_ris {α : Type} [DecidableEq α] {lt : α → α → Bool} (h : Sto lt) : ∀ {l : List α}, l.Pairwise (fun a b => lt b a = false) → Ris lt (pack l)
  | [], _ => .nil
  | [x], _ => by simp [pack]
  | x :: y :: l, hl => by
    unfold pack
    have hp := h.pack_ris (List.Pairwise.of_cons hl)
    split
    · exact hp
    · rename_i e
      refine List.pairwise_cons.2 ⟨fun z hz => ?_, hp⟩
      rw [mem_pack] at hz
      have hxy : lt x y = true := by
        rcases h.tot x y e with h1 | h1
        · exact h1
        · rw [List.rel_of_pairwise_cons hl (List.mem_cons_self)] at h1; cases h1
      rcases List.mem_cons.1 hz with rfl | hz
      · exact hxy
      · have hzy : lt z y = false := List.rel_of_pairwise_cons (List.Pairwise.of_cons hl) hz
        by_cases ezy : y = z
        · rw [← ezy]; exact hxy
        · rcases h.tot y z ezy with h1 | h1
          · exact h.trans _ _ _ hxy h1
          · rw [hzy] at h1; cases h1

/-- The library's words for it. -/
theorem compactUpTo_cons {α : Type} [Inhabited α] [DecidableEq α] (x : α) (l : List α) : ∀ m, m ≤ l.length → Lib.compactUpTo (x :: l).toArray (m + 1) = (x :: (Lib.compactUpTo l.toArray m).drop (if (l.head? = some x ∧ 0 < m) then 1 else 0)) := by
  intro m
  induction m with
  | zero => intro _; simp [Lib.compactUpTo, Lib.keeps]
  | succ m ih =>
    intro hm
    rw [Lib.compactUpTo_succ (x :: l).toArray (m + 1), Lib.compactUpTo_succ l.toArray m, ih (by omega)]
    match m with
    | 0 =>
      match l with
      | [] => simp at hm
      | y :: ys =>
        by_cases e : y = x
        · simp [Lib.compactUpTo, Lib.keeps, e]
        · simp [Lib.compactUpTo, Lib.keeps, e]
    | k + 1 =>
      have h1 : Lib.keeps (x :: l).toArray (k + 1 + 1) = Lib.keeps l.toArray (k + 1) := by
        simp [Lib.keeps]
      have h2 : (x :: l).toArray[k + 1 + 1]! = l.toArray[k + 1]! := by simp
      have hpos : 0 < (Lib.compactUpTo l.toArray (k + 1)).length := by
        unfold Lib.compactUpTo
        rw [List.length_map, List.range_succ_eq_map, List.filter_cons]
        simp [Lib.keeps]
      rw [h1, h2]
      simp only [Nat.succ_pos, and_true, List.cons_append]
      congr 1
      by_cases e : l.head? = some x
      · simp only [e, ↓reduceIte]
        rw [List.drop_append_of_le_length (by omega)]
      · simp [e]

theorem lib_compact {α : Type} [Inhabited α] [DecidableEq α] : ∀ (l : List α), Lib.compact l = pack l
  | [] => rfl
  | [x] => by simp [Lib.compact, Lib.compactUpTo, Lib.keeps, pack]
  | x :: y :: l => by
    have ih := lib_compact (y :: l)
    unfold Lib.compact at ih ⊢
    have h1 := compactUpTo_cons x (y :: l) (y :: l).length (Nat.le_refl _)
    have h2 := compactUpTo_cons y l l.length (Nat.le_refl _)
    simp only [List.length_cons] at h1 h2 ih ⊢
    rw [h1, ih, pack_two]
    by_cases e : x = y
    · subst e
      rw [ih] at h2
      simp only [List.head?_cons, Nat.succ_pos, and_self, ↓reduceIte]
      rw [h2]
      simp
    · have e' : ¬ y = x := fun k => e k.symm
      simp [e, e']

end Go.Proofs.Av
