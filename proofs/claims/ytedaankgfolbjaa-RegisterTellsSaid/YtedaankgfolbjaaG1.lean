/- Comparisons that are fit to sort by; sorted and packed lists. No program here. -/
import Derived.Test.YtedaankgfolbjaaF1
import Derived.Test.YtedaankgfolbjaaAv25
import Derived.Sort.Walk0
set_option linter.unusedVariables false
set_option linter.unusedSimpArgs false
namespace Go.Proofs.Av

def ofBytes (l : List UInt8) : ByteArray := ⟨l.toArray⟩
theorem ofBytes_toList (b : ByteArray) : ofBytes b.toList = b := by
  cases b
  simp [ofBytes, ByteArray.toList_eq]
theorem toList_ofBytes (l : List UInt8) : (ofBytes l).toList = l := by simp [ofBytes, ByteArray.toList_eq]

structure Good {α : Type} (c : α → α → Int) : Prop where
  anti : ∀ a b, c a b < 0 ↔ 0 < c b a
  trans : ∀ a b d, c a b ≤ 0 → c b d ≤ 0 → c a d ≤ 0

namespace Good
variable {α β : Type} {c c1 c2 : α → α → Int}

theorem zero (h : Good c) {a b : α} : c a b = 0 ↔ c b a = 0 := by
  have h1 := h.anti a b
  have h2 := h.anti b a
  omega
theorem refl (h : Good c) (a : α) : c a a = 0 := by
  have := h.anti a a
  omega
theorem comap (h : Good c) (f : β → α) : Good (fun x y => c (f x) (f y)) := ⟨fun a b => h.anti _ _, fun a b d => h.trans _ _ _⟩
theorem const : Good (fun (_ _ : α) => (0 : Int)) := ⟨fun _ _ => by omega, fun _ _ _ _ _ => by omega⟩
theorem trans_lt (h : Good c) {a b d : α} (h1 : c a b < 0) (h2 : c b d ≤ 0) : c a d < 0 := by
  have h3 := h.trans a b d (by omega) h2
  rcases Int.lt_or_eq_of_le h3 with h4 | h4
  · exact h4
  · have h5 : c d a = 0 := h.zero.1 h4
    have h6 := h.trans b d a h2 (by omega)
    have := (h.anti a b).1 h1
    omega
theorem trans_lt' (h : Good c) {a b d : α} (h1 : c a b ≤ 0) (h2 : c b d < 0) : c a d < 0 := by
  have h3 := h.trans a b d h1 (by omega)
  rcases Int.lt_or_eq_of_le h3 with h4 | h4
  · exact h4
  · have h5 : c d a = 0 := h.zero.1 h4
    have h6 := h.trans d a b (by omega) h1
    have := (h.anti b d).1 h2
    omega
theorem trans_eq (h : Good c) {a b d : α} (h1 : c a b = 0) (h2 : c b d = 0) : c a d = 0 := by
  have h3 := h.trans a b d (by omega) (by omega)
  have h4 := h.trans d b a (by rw [h.zero.1 h2]; omega) (by rw [h.zero.1 h1]; omega)
  have := h.anti a d
  omega
/-- First by the one, then by the other. -/
theorem lex (h1 : Good c1) (h2 : Good c2) : Good (fun a b => if c1 a b ≠ 0 then c1 a b else c2 a b) := by
  refine ⟨fun a b => ?_, fun a b d => ?_⟩
  · have e1 := h1.anti a b
    have e2 := h1.anti b a
    have e3 := h2.anti a b
    have e4 := h2.anti b a
    by_cases hz : c1 a b = 0
    · have hz' : c1 b a = 0 := h1.zero.1 hz
      simp [hz, hz', e3]
    · have hz' : c1 b a ≠ 0 := fun e => hz (h1.zero.1 e)
      simp [hz, hz', e1]
  · intro hab hbd
    by_cases z1 : c1 a b = 0
    · by_cases z2 : c1 b d = 0
      · have := h1.trans_eq z1 z2
        simp [z1, z2, this] at *
        exact h2.trans a b d hab hbd
      · simp [z2] at hbd
        have h := h1.trans_lt' (a := a) (b := b) (d := d) (by omega) (by omega)
        rw [if_pos (by omega)]
        omega
    · simp [z1] at hab
      have hbd' : c1 b d ≤ 0 := by
        by_cases z2 : c1 b d = 0
        · omega
        · simpa [z2] using hbd
      have h := h1.trans_lt (a := a) (b := b) (d := d) (by omega) hbd'
      rw [if_pos (by omega)]
      omega

theorem cmpI : Good cmpI := by
  refine ⟨fun a b => ?_, fun a b d => ?_⟩
  · unfold Av.cmpI; (repeat' split) <;> omega
  · unfold Av.cmpI; (repeat' split) <;> omega

theorem less_toList {a b : ByteArray} : Op.bytesLess a.toList b.toList = true ↔ a.toList < b.toList := by rw [Go.Proofs.bytesLess_eq]; simp
theorem toList_inj {a b : ByteArray} : a.toList = b.toList ↔ a = b := ⟨fun h => by rw [← ofBytes_toList a, ← ofBytes_toList b, h], fun h => by rw [h]⟩

theorem cmpS_neg {a b : ByteArray} : cmpS a b < 0 ↔ a.toList < b.toList := by
  unfold Av.cmpS
  simp only [less_toList]
  by_cases h : a.toList < b.toList
  · simp [h]
  · simp only [h, if_false, iff_false]
    split <;> omega
theorem cmpS_zero {a b : ByteArray} : cmpS a b = 0 ↔ a = b := by
  unfold Av.cmpS
  simp only [less_toList]
  by_cases h : a.toList < b.toList
  · simp only [h, if_true]
    have : a ≠ b := fun e => by rw [e] at h; exact List.lt_irrefl _ h
    simp [this]
  · simp only [h, if_false]
    split
    · rename_i e; simp [e]
    · rename_i e; simp [e]
theorem cmpS_pos {a b : ByteArray} : 0 < cmpS a b ↔ b.toList < a.toList := by
  constructor
  · intro h
    have h1 : ¬ a.toList < b.toList := fun e => by have := cmpS_neg.2 e; omega
    have h2 : a ≠ b := fun e => by have := cmpS_zero.2 e; omega
    have h3 : a.toList ≠ b.toList := fun e => h2 (toList_inj.1 e)
    rcases List.le_total a.toList b.toList with h4 | h4
    · exact absurd (List.le_antisymm h4 (List.not_lt.1 h1)) h3
    · refine Decidable.byContradiction fun h5 => h3 (List.le_antisymm (List.not_lt.1 h5) h4)
  · intro h
    have h1 : ¬ cmpS a b < 0 := fun e => by have := cmpS_neg.1 e; exact List.lt_irrefl _ (List.lt_trans h this)
    have h2 : ¬ cmpS a b = 0 := fun e => by rw [cmpS_zero.1 e] at h; exact List.lt_irrefl _ h
    omega

theorem cmpS : Good cmpS := by
  refine ⟨fun a b => by rw [cmpS_neg, cmpS_pos], fun a b d h1 h2 => ?_⟩
  refine Int.not_lt.1 fun h => ?_
  have h' := cmpS_pos.1 h
  have k1 : ¬ b.toList < a.toList := fun e => by have := cmpS_pos.2 e; omega
  have k2 : ¬ d.toList < b.toList := fun e => by have := cmpS_pos.2 e; omega
  exact absurd h' (List.not_lt.2 (List.le_trans (List.not_lt.1 k1) (List.not_lt.1 k2)))

/-- 'less', both ways, as a comparison. -/
theorem signs (h : Good c) : Good (fun a b => sign (decide (c a b < 0)) (decide (c b a < 0))) := by
  have key : ∀ a b, sign (decide (c a b < 0)) (decide (c b a < 0)) = if c a b < 0 then -1 else if c a b = 0 then 0 else 1 := by
    intro a b
    have h1 := h.anti a b
    have h2 := h.anti b a
    unfold sign
    by_cases k : c a b < 0
    · simp [k]
    · by_cases k2 : c a b = 0
      · have : ¬ c b a < 0 := by omega
        simp [k2, this]
      · have : c b a < 0 := by omega
        simp [k, k2, this]
  refine ⟨fun a b => ?_, fun a b d => ?_⟩
  · simp only [key]
    have h1 := h.anti a b
    have h2 := h.anti b a
    (repeat' split) <;> omega
  · simp only [key]
    have h1 := h.trans a b d
    (repeat' split) <;> omega

/-- Fit to sort by. -/
theorem swo (h : Good c) : Go.Sort.SWO (Go.Proofs.ltOf c) := by
  refine ⟨fun x => ?_, fun x y z h1 h2 => ?_, fun x y z h1 h2 => ?_⟩
  · have := h.refl x
    simp [Go.Proofs.ltOf, this]
  · simp [Go.Proofs.ltOf] at *
    exact h.trans_lt h1 (by omega)
  · simp [Go.Proofs.ltOf] at *
    have k1 := h.anti x y
    have k2 := h.anti y x
    have k3 := h.anti y z
    have k4 := h.anti z y
    have k5 := h.anti x z
    have k6 := h.trans z y x (by omega) (by omega)
    have k7 := h.anti z x
    omega

end Good

theorem orI_cons (x : Int) (l : List Int) : orI (x :: l) = if x ≠ 0 then x else orI l := rfl

theorem good_dot : Good dotOrder := by
  have h := (Good.cmpI.comap Dot.r).lex ((Good.cmpI.comap Dot.n).lex (Good.const (α := Dot)))
  exact h
theorem good_stamp : Good stampOrder := by
  have h := (Good.cmpI.comap Stamp.wall).lex ((Good.cmpI.comap Stamp.count).lex ((Good.cmpI.comap Stamp.who).lex (Good.const (α := Stamp))))
  exact h
theorem good_reg : Good regOrder := by
  have h := ((good_stamp.signs).comap Fact.stamp).lex (((good_dot.signs).comap Fact.dot).lex ((Good.cmpS.comap Fact.value).lex (Good.const (α := Fact))))
  exact h

end Go.Proofs.Av
