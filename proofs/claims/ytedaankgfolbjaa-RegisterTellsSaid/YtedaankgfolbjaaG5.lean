/- Searches in lists; facts in order; registers, by definition. Plain laws. No program here. -/
import Derived.Test.YtedaankgfolbjaaG3
import Derived.Test.YtedaankgfolbjaaG4
set_option linter.unusedVariables false
set_option linter.unusedSimpArgs false
namespace Go.Proofs.Av

theorem takeWhile_stop {α : Type} {p : α → Bool} : ∀ {l : List α} {k : Nat}, k ≤ l.length → (∀ x ∈ l.take k, p x = true) → (∀ h : k < l.length, p l[k] = false) → l.takeWhile p = l.take k ∧ l.dropWhile p = l.drop k
  | [], k, _, _, _ => by simp
  | x :: l, 0, _, _, h => by
    have := h (by simp)
    simp only [List.getElem_cons_zero] at this
    simp [this]
  | x :: l, k + 1, hk, ha, h => by
    have h0 : p x = true := ha x (by simp)
    obtain ⟨h1, h2⟩ := takeWhile_stop (l := l) (k := k) (by simpa using hk) (fun y hy => ha y (by simp [hy])) (fun hlt => by have := h (by simpa using hlt); rwa [List.getElem_cons_succ] at this)
    simp [h0, h1, h2]

theorem ins_stop {α : Type} {lt : α → α → Bool} {x : α} {l : List α} {k : Nat} (hk : k ≤ l.length) (ha : ∀ y ∈ l.take k, lt y x = true) (h : ∀ h : k < l.length, lt l[k] x = false) : ins lt x l = l.take k ++ x :: l.drop k := by
  obtain ⟨h1, h2⟩ := takeWhile_stop (p := fun y => lt y x) hk ha h
  unfold ins
  rw [h1, h2]

theorem fold_take {α β : Type} (f : β → α → β) (b : β) {l : List α} {i : Nat} (h : i < l.length) : (l.take (i + 1)).foldl f b = f ((l.take i).foldl f b) l[i] := by
  rw [List.take_succ_eq_append_getElem h, List.foldl_append]; rfl

theorem fold_len {α β : Type} {f : List β → α → List β} (hf : ∀ out x, (f out x).length ≤ out.length + 1) : ∀ (l : List α) (out : List β), (l.foldl f out).length ≤ out.length + l.length
  | [], out => by simp
  | x :: l, out => by
    have h1 := fold_len hf l (f out x)
    have h2 := hf out x
    simp only [List.foldl_cons, List.length_cons]
    omega

theorem ins_len {α : Type} (lt : α → α → Bool) (x : α) (l : List α) : (ins lt x l).length = l.length + 1 := by
  have h : (l.takeWhile (fun y => lt y x)).length + (l.dropWhile (fun y => lt y x)).length = l.length := by
    rw [← List.length_append, List.takeWhile_append_dropWhile]
  unfold ins
  simp
  omega
theorem onceIn_len {α : Type} [DecidableEq α] (lt : α → α → Bool) (out : List α) (x : α) : (onceIn lt out x).length ≤ out.length + 1 := by
  unfold onceIn
  split
  · omega
  · rw [ins_len]; omega

/-- Back from the end, as long as what lies ahead is to come behind. -/
def back {α : Type} (p : α → Bool) (l : List α) : Nat → Nat
  | 0 => 0
  | k + 1 => match l[k]? with | some y => if p y = true then back p l k else k + 1 | none => k + 1
theorem back_le {α : Type} (p : α → Bool) (l : List α) : ∀ k, back p l k ≤ k
  | 0 => Nat.le_refl _
  | k + 1 => by
    unfold back
    split
    · split
      · exact Nat.le_succ_of_le (back_le p l k)
      · exact Nat.le_refl _
    · exact Nat.le_refl _
def insBack {α : Type} (p : α → α → Bool) (out : List α) (x : α) : List α := out.take (back (fun y => p y x) out out.length) ++ x :: out.drop (back (fun y => p y x) out out.length)
theorem insBack_len {α : Type} (p : α → α → Bool) (out : List α) (x : α) : (insBack p out x).length ≤ out.length + 1 := by
  have := back_le (fun y => p y x) out out.length
  unfold insBack
  simp
  omega
theorem insBack_perm {α : Type} (p : α → α → Bool) (out : List α) (x : α) : (insBack p out x).Perm (x :: out) := by
  unfold insBack
  refine List.perm_middle.trans (.cons _ ?_)
  rw [List.take_append_drop]

/-! Stamps, facts. -/
def stampLt (a b : Stamp) : Bool := decide (a.wall < b.wall) || (decide (a.wall = b.wall) && (decide (a.count < b.count) || (decide (a.count = b.count) && decide (a.who < b.who))))
theorem stampLt_iff {a b : Stamp} : stampLt a b = true ↔ a.wall < b.wall ∨ a.wall = b.wall ∧ (a.count < b.count ∨ a.count = b.count ∧ a.who < b.who) := by simp [stampLt]
theorem stoStamp : Sto stampLt := by
  refine ⟨fun a => by simp [stampLt], fun a b d h1 h2 => ?_, fun a b hne => ?_⟩
  · rw [stampLt_iff] at *; omega
  · rw [stampLt_iff, stampLt_iff]
    rcases Int.lt_trichotomy a.wall b.wall with h | h | h
    · omega
    · rcases Int.lt_trichotomy a.count b.count with k | k | k
      · omega
      · rcases Int.lt_trichotomy a.who b.who with q | q | q
        · omega
        · exact absurd (by cases a; cases b; simp_all) hne
        · omega
      · omega
    · omega

theorem orI_neg2 {a b : Int} : orI [a, b] < 0 ↔ a < 0 ∨ a = 0 ∧ b < 0 := by
  simp only [orI]; (repeat' split) <;> omega
theorem orI_neg3 {a b c : Int} : orI [a, b, c] < 0 ↔ a < 0 ∨ a = 0 ∧ (b < 0 ∨ b = 0 ∧ c < 0) := by
  simp only [orI]; (repeat' split) <;> omega
theorem cmpI_neg {a b : Int} : cmpI a b < 0 ↔ a < b := by
  unfold cmpI; (repeat' split) <;> omega
theorem dotOrder_neg {a b : Dot} : dotOrder a b < 0 ↔ dotLt a b = true := by
  unfold dotOrder
  rw [orI_neg2, cmpI_neg, cmpI_neg, cmpI_zero, dotLt_iff]
theorem stampOrder_neg {a b : Stamp} : stampOrder a b < 0 ↔ stampLt a b = true := by
  unfold stampOrder
  rw [orI_neg3, cmpI_neg, cmpI_neg, cmpI_neg, cmpI_zero, cmpI_zero, stampLt_iff]
theorem sign_neg {α : Type} {c : α → α → Int} (h : Good c) {a b : α} : sign (decide (c a b < 0)) (decide (c b a < 0)) < 0 ↔ c a b < 0 := by
  unfold sign
  by_cases k1 : c a b < 0
  · simp [k1]
  · by_cases k2 : c b a < 0 <;> simp [k1, k2]
theorem ltS_iff {a b : ByteArray} : ltS a b = true ↔ cmpS a b < 0 := by
  unfold ltS; rw [Good.cmpS_neg, Good.less_toList]
theorem regOrder_neg {a b : Fact} : regOrder a b < 0 ↔ stampLt a.stamp b.stamp = true ∨ a.stamp = b.stamp ∧ (dotLt a.dot b.dot = true ∨ a.dot = b.dot ∧ ltS a.value b.value = true) := by
  unfold regOrder stampLess dotLess
  rw [orI_neg3, sign_neg good_stamp, sign_neg good_dot, sign_zero good_stamp, sign_zero good_dot, stampOrder_neg, dotOrder_neg, stampOrder_zero, dotOrder_zero, ltS_iff]

/-- almonryref17.later -/
def later (a b : Fact) : Bool := if a.stamp ≠ b.stamp then stampLt b.stamp a.stamp else if a.dot ≠ b.dot then dotLt b.dot a.dot else !(ltS a.value b.value || decide (a.value = b.value))
theorem later_iff {a b : Fact} : later a b = true ↔ regOrder b a < 0 := by
  rw [regOrder_neg]
  unfold later
  by_cases h1 : a.stamp = b.stamp
  · rw [if_neg (by simpa using h1)]
    by_cases h2 : a.dot = b.dot
    · rw [if_neg (by simpa using h2)]
      simp only [h1, h2, stoStamp.irr, stoDot.irr, Bool.false_eq_true, false_or, true_and]
      cases h3 : ltS a.value b.value with
      | true => simp [stoS.asym h3]
      | false =>
        by_cases h4 : a.value = b.value
        · simp [h4, stoS.irr]
        · rcases stoS.tot _ _ h4 with h5 | h5
          · rw [h3] at h5; cases h5
          · simp [h4, h5]
    · rw [if_pos h2]
      have h2' : ¬ b.dot = a.dot := fun e => h2 e.symm
      simp [h1, h2', stoStamp.irr]
  · rw [if_pos h1]
    have h1' : ¬ b.stamp = a.stamp := fun e => h1 e.symm
    simp [h1']

/-- almonryref17.order -/
def refOrder (l : List Fact) : List Fact := l.foldl (insBack later) []
theorem refOrder_len (l : List Fact) : (refOrder l).length ≤ l.length := by
  have := fold_len (insBack_len later) l []
  unfold refOrder
  simpa using this

theorem back_spec {l : List Fact} {x : Fact} : ∀ k, k ≤ l.length → (∀ h : 0 < back (fun y => later y x) l k, ∃ h' : back (fun y => later y x) l k - 1 < l.length, later l[back (fun y => later y x) l k - 1] x = false) ∧
    ∀ j (h : j < l.length), back (fun y => later y x) l k ≤ j → j < k → later l[j] x = true
  | 0, _ => ⟨fun h => by simp [back] at h, fun j h _ hj => by omega⟩
  | k + 1, hk => by
    have hlt : k < l.length := hk
    have hg : l[k]? = some l[k] := List.getElem?_eq_getElem hlt
    obtain ⟨i1, i2⟩ := back_spec (l := l) (x := x) k (by omega)
    by_cases hp : later l[k] x = true
    · have e : back (fun y => later y x) l (k + 1) = back (fun y => later y x) l k := by
        conv => lhs; unfold back
        simp [hg, hp]
      rw [e]
      refine ⟨i1, fun j h h1 h2 => ?_⟩
      by_cases hjk : j = k
      · subst hjk; exact hp
      · exact i2 j h h1 (by omega)
    · have e : back (fun y => later y x) l (k + 1) = k + 1 := by
        conv => lhs; unfold back
        simp [hg, hp]
      rw [e]
      refine ⟨fun _ => ⟨by simpa using hlt, ?_⟩, fun j h h1 h2 => by omega⟩
      simpa using hp

theorem insBack_up {l : List Fact} {x : Fact} (hl : RegUp l) : RegUp (insBack later l x) := by
  obtain ⟨h1, h2⟩ := back_spec (l := l) (x := x) l.length (Nat.le_refl _)
  have hle := back_le (fun y => later y x) l l.length
  unfold insBack
  generalize back (fun y => later y x) l l.length = k at *
  have hlow : ∀ y ∈ l.take k, regOrder y x ≤ 0 := by
    intro y hy
    obtain ⟨j, hj, rfl⟩ := List.getElem_of_mem hy
    have hj' : j < k := by simp at hj; omega
    simp only [List.getElem_take]
    obtain ⟨h', hk⟩ := h1 (by omega)
    have hlast : regOrder l[k - 1] x ≤ 0 := by
      have : ¬ regOrder x l[k - 1] < 0 := fun e => by rw [later_iff.2 e] at hk; cases hk
      have := good_reg.anti x l[k - 1]
      have := good_reg.anti l[k - 1] x
      omega
    by_cases e : j = k - 1
    · subst e; exact hlast
    · exact good_reg.trans _ _ _ (List.pairwise_iff_getElem.1 hl j (k - 1) (by omega) h' (by omega)) hlast
  have hhigh : ∀ y ∈ l.drop k, regOrder x y ≤ 0 := by
    intro y hy
    obtain ⟨j, hj, rfl⟩ := List.getElem_of_mem hy
    simp only [List.getElem_drop]
    have := later_iff.1 (h2 (k + j) (by simp at hj; omega) (by omega) (by simp at hj; omega))
    omega
  have hsplit := hl
  rw [← List.take_append_drop k l] at hsplit
  obtain ⟨s1, s2, s3⟩ := List.pairwise_append.1 hsplit
  refine List.pairwise_append.2 ⟨s1, List.pairwise_cons.2 ⟨hhigh, s2⟩, fun a ha b hb => ?_⟩
  rcases List.mem_cons.1 hb with rfl | hb
  · exact hlow a ha
  · exact s3 a ha b hb

theorem refOrder_fold : ∀ (l out : List Fact), RegUp out → RegUp (l.foldl (insBack later) out) ∧ (l.foldl (insBack later) out).Perm (l ++ out)
  | [], out, h => ⟨h, .refl _⟩
  | x :: l, out, h => by
    obtain ⟨h1, h2⟩ := refOrder_fold l _ (insBack_up (x := x) h)
    refine ⟨h1, h2.trans ?_⟩
    exact (List.Perm.append_left l (insBack_perm later out x)).trans List.perm_middle
theorem refAll_eq (l : List Fact) : (refOrder l).map (·.value) = regAll l := by
  obtain ⟨h1, h2⟩ := refOrder_fold l [] .nil
  exact regVal_uniq (h2.trans (by simpa using (regSort_perm l).symm)) h1 (regSort_up l)

/-- almonryref17.Elements -/
def elIn (out : List ByteArray) (x : ByteArray) : List ByteArray := if (out.dropWhile fun y => ltS y x).head? = some x then out else ins ltS x out
theorem elIn_len (out : List ByteArray) (x : ByteArray) : (elIn out x).length ≤ out.length + 1 := by
  unfold elIn
  split
  · omega
  · rw [ins_len]; omega
theorem elIn_once {out : List ByteArray} {x : ByteArray} (h : Ris ltS out) : elIn out x = onceIn ltS out x := by
  unfold elIn onceIn
  have key : (out.dropWhile fun y => ltS y x).head? = some x ↔ x ∈ out := by
    constructor
    · intro hh
      have : x ∈ out.dropWhile fun y => ltS y x := List.mem_of_mem_head? hh
      rw [← List.takeWhile_append_dropWhile (p := fun y => ltS y x) (l := out)]
      exact List.mem_append_right _ this
    · intro hx
      rw [← List.takeWhile_append_dropWhile (p := fun y => ltS y x) (l := out)] at hx h
      rcases List.mem_append.1 hx with hx | hx
      · have := mem_takeWhile_pos hx
        rw [stoS.irr] at this
        cases this
      · match hd : out.dropWhile fun y => ltS y x with
        | [] => rw [hd] at hx; simp at hx
        | z :: zs =>
          have hz := head_dropWhile_neg hd
          rw [hd] at hx h
          rcases List.mem_cons.1 hx with rfl | hx
          · rfl
          · have := List.rel_of_pairwise_cons (List.pairwise_append.1 h).2.1 hx
            change ltS z x = false at hz
            rw [hz] at this
            cases this
  by_cases hx : x ∈ out
  · rw [if_pos (key.2 hx), if_pos hx]
  · rw [if_neg (fun e => hx (key.1 e)), if_neg hx]
def refElements (l : List Fact) : List ByteArray := (l.map (·.value)).foldl elIn []
theorem elIn_fold : ∀ (l out : List ByteArray), Ris ltS out → l.foldl elIn out = l.foldl (onceIn ltS) out
  | [], out, _ => rfl
  | x :: l, out, h => by
    simp only [List.foldl_cons]
    rw [elIn_once h]
    exact elIn_fold l _ (stoS.onceIn h).1
theorem refElements_eq (l : List Fact) : refElements l = regElements l := by
  unfold refElements
  rw [elIn_fold _ _ .nil]
  refine stoS.uniq (stoS.onceSort_ris _) (regElements_ris l) fun v => ?_
  change v ∈ onceSort ltS _ ↔ _
  rw [stoS.mem_onceSort, mem_regElements, List.mem_map]
theorem refElements_len (l : List Fact) : (refElements l).length ≤ l.length := by
  have := fold_len elIn_len (l.map (·.value)) []
  unfold refElements
  simpa using this

/-- almonryref15.Less -/
def factLt (a b : Fact) : Bool := if a.name ≠ b.name then ltS a.name b.name else if a.kind ≠ b.kind then decide (a.kind < b.kind) else if a.dot ≠ b.dot then dotLt a.dot b.dot else if a.stamp ≠ b.stamp then stampLt a.stamp b.stamp else ltS a.value b.value
theorem factLt_iff {a b : Fact} : factLt a b = true ↔ ltS a.name b.name = true ∨ a.name = b.name ∧ (a.kind < b.kind ∨ a.kind = b.kind ∧ (dotLt a.dot b.dot = true ∨ a.dot = b.dot ∧ (stampLt a.stamp b.stamp = true ∨ a.stamp = b.stamp ∧ ltS a.value b.value = true))) := by
  unfold factLt
  by_cases h1 : a.name = b.name
  · rw [if_neg (by simpa using h1)]
    by_cases h2 : a.kind = b.kind
    · rw [if_neg (by simpa using h2)]
      by_cases h3 : a.dot = b.dot
      · rw [if_neg (by simpa using h3)]
        by_cases h4 : a.stamp = b.stamp
        · rw [if_neg (by simpa using h4)]
          simp [h1, h2, h3, h4, stoS.irr, stoDot.irr, stoStamp.irr]
        · rw [if_pos h4]
          simp [h1, h2, h3, h4, stoS.irr, stoDot.irr]
      · rw [if_pos h3]
        simp [h1, h2, h3, stoS.irr]
    · rw [if_pos h2]
      simp [h1, h2, stoS.irr]
  · rw [if_pos h1]
    simp [h1]
theorem stoFact : Sto factLt := by
  refine ⟨fun a => ?_, fun a b d h1 h2 => ?_, fun a b hne => ?_⟩
  · cases h : factLt a a with
    | false => rfl
    | true =>
      have := factLt_iff.1 h
      simp [stoS.irr, stoDot.irr, stoStamp.irr] at this
  · rw [factLt_iff] at *
    rcases h1 with h1 | ⟨e1, h1⟩
    · rcases h2 with h2 | ⟨e2, _⟩
      · exact .inl (stoS.trans _ _ _ h1 h2)
      · exact .inl (by rw [← e2]; exact h1)
    · rcases h2 with h2 | ⟨e2, h2⟩
      · exact .inl (by rw [e1]; exact h2)
      · refine .inr ⟨e1.trans e2, ?_⟩
        rcases h1 with h1 | ⟨k1, h1⟩
        · rcases h2 with h2 | ⟨k2, _⟩
          · exact .inl (by omega)
          · exact .inl (by omega)
        · rcases h2 with h2 | ⟨k2, h2⟩
          · exact .inl (by omega)
          · refine .inr ⟨k1.trans k2, ?_⟩
            rcases h1 with h1 | ⟨d1, h1⟩
            · rcases h2 with h2 | ⟨d2, _⟩
              · exact .inl (stoDot.trans _ _ _ h1 h2)
              · exact .inl (by rw [← d2]; exact h1)
            · rcases h2 with h2 | ⟨d2, h2⟩
              · exact .inl (by rw [d1]; exact h2)
              · refine .inr ⟨d1.trans d2, ?_⟩
                rcases h1 with h1 | ⟨s1, h1⟩
                · rcases h2 with h2 | ⟨s2, _⟩
                  · exact .inl (stoStamp.trans _ _ _ h1 h2)
                  · exact .inl (by rw [← s2]; exact h1)
                · rcases h2 with h2 | ⟨s2, h2⟩
                  · exact .inl (by rw [s1]; exact h2)
                  · exact .inr ⟨s1.trans s2, stoS.trans _ _ _ h1 h2⟩
  · by_cases h1 : a.name = b.name
    · by_cases h2 : a.kind = b.kind
      · by_cases h3 : a.dot = b.dot
        · by_cases h4 : a.stamp = b.stamp
          · by_cases h5 : a.value = b.value
            · exact absurd (by cases a; cases b; simp_all) hne
            · rw [factLt_iff, factLt_iff]
              rcases stoS.tot _ _ h5 with h | h <;> simp [h1, h2, h3, h4, h]
          · rw [factLt_iff, factLt_iff]
            rcases stoStamp.tot _ _ h4 with h | h <;> simp [h1, h2, h3, h]
        · rw [factLt_iff, factLt_iff]
          rcases stoDot.tot _ _ h3 with h | h <;> simp [h1, h2, h]
      · rw [factLt_iff, factLt_iff]
        rcases Int.lt_or_gt_of_ne h2 with h | h <;> simp [h1, h]
    · rw [factLt_iff, factLt_iff]
      rcases stoS.tot _ _ h1 with h | h <;> simp [h]
def factSort (l : List Fact) : List Fact := onceSort factLt l
theorem factSort_len (l : List Fact) : (factSort l).length ≤ l.length := by
  have := fold_len (onceIn_len factLt) l []
  unfold factSort onceSort
  simpa using this
theorem dotSort_len (l : List Dot) : (dotSort l).length ≤ l.length := by
  have := fold_len (onceIn_len dotLt) l []
  unfold dotSort onceSort
  simpa using this

end Go.Proofs.Av
