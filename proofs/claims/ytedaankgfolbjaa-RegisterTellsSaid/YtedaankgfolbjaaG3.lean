/- Registers: plain laws. No program here. -/
import Derived.Test.YtedaankgfolbjaaG2
import Derived.Test.YtedaankgfolbjaaF5
set_option linter.unusedVariables false
set_option linter.unusedSimpArgs false
namespace Go.Proofs.Av

theorem cmpI_zero {a b : Int} : cmpI a b = 0 ↔ a = b := by
  unfold cmpI; constructor
  · intro h; split at h
    · omega
    · split at h <;> omega
  · rintro rfl; simp
theorem orI_two {a b : Int} : orI [a, b] = 0 ↔ a = 0 ∧ b = 0 := by
  simp only [orI]; (repeat' split) <;> omega
theorem orI_three {a b c : Int} : orI [a, b, c] = 0 ↔ a = 0 ∧ b = 0 ∧ c = 0 := by
  simp only [orI]; (repeat' split) <;> omega
theorem dotOrder_zero {a b : Dot} : dotOrder a b = 0 ↔ a = b := by
  unfold dotOrder; rw [orI_two, cmpI_zero, cmpI_zero]
  constructor
  · rintro ⟨h1, h2⟩; cases a; cases b; simp_all
  · rintro rfl; simp
theorem stampOrder_zero {a b : Stamp} : stampOrder a b = 0 ↔ a = b := by
  unfold stampOrder; rw [orI_three, cmpI_zero, cmpI_zero, cmpI_zero]
  constructor
  · rintro ⟨h1, h2, h3⟩; cases a; cases b; simp_all
  · rintro rfl; simp
theorem sign_zero {α : Type} {c : α → α → Int} (h : Good c) {a b : α} : sign (decide (c a b < 0)) (decide (c b a < 0)) = 0 ↔ c a b = 0 := by
  have h1 := h.anti a b
  have h2 := h.anti b a
  unfold sign
  constructor
  · intro k
    by_cases k1 : c a b < 0
    · simp [k1] at k
    · by_cases k2 : c b a < 0
      · simp [k1, k2] at k
      · omega
  · intro k
    have k1 : ¬ c a b < 0 := by omega
    have k2 : ¬ c b a < 0 := by omega
    simp [k1, k2]
theorem regOrder_zero {a b : Fact} : regOrder a b = 0 ↔ a.stamp = b.stamp ∧ a.dot = b.dot ∧ a.value = b.value := by
  unfold regOrder stampLess dotLess
  rw [orI_three, sign_zero good_stamp, sign_zero good_dot, stampOrder_zero, dotOrder_zero, Good.cmpS_zero]

def keyF (f : Fact) : Fact := ⟨f.dot, f.stamp, 0, ⟨#[]⟩, f.value⟩

abbrev RegUp (l : List Fact) : Prop := l.Pairwise fun a b => regOrder a b ≤ 0

theorem regVal_uniq {p q : List Fact} (h : p.Perm q) (hp : RegUp p) (hq : RegUp q) : p.map (·.value) = q.map (·.value) := by
  have hk : p.map keyF = q.map keyF := by
    refine List.Perm.eq_of_pairwise (le := fun a b => regOrder a b ≤ 0) (fun a b ha hb h1 h2 => ?_) (List.pairwise_map.2 hp) (List.pairwise_map.2 hq) (h.map _)
    obtain ⟨x, _, rfl⟩ := List.mem_map.1 ha
    obtain ⟨y, _, rfl⟩ := List.mem_map.1 hb
    have h3 := good_reg.anti (keyF x) (keyF y)
    have h4 := good_reg.anti (keyF y) (keyF x)
    have hz : regOrder (keyF x) (keyF y) = 0 := by omega
    obtain ⟨z1, z2, z3⟩ := regOrder_zero.1 hz
    simp only [keyF] at z1 z2 z3 ⊢
    rw [z1, z2, z3]
  have := congrArg (List.map (·.value)) hk
  rw [List.map_map, List.map_map] at this
  exact this

theorem regSort_up (l : List Fact) : RegUp (regSort l) := by
  refine (sortBy_both good_reg.swo l).2.imp fun {a b} hab => ?_
  have := good_reg.anti b a
  simp [Go.Proofs.ltOf] at hab
  omega
theorem regSort_perm (l : List Fact) : (regSort l).Perm l := (sortBy_both good_reg.swo l).1

theorem regAll_perm {p q : List Fact} (h : p.Perm q) : regAll p = regAll q :=
  regVal_uniq (((regSort_perm p).trans h).trans (regSort_perm q).symm) (regSort_up p) (regSort_up q)

theorem maxBy_spec {α : Type} {o : α → α → Int} (h : Good o) : ∀ (ys : List α) (m : α), maxBy o m ys ∈ m :: ys ∧ ∀ y ∈ m :: ys, o y (maxBy o m ys) ≤ 0
  | [], m => ⟨by simp [maxBy], fun y hy => by simp at hy; subst hy; rw [maxBy, h.refl]; omega⟩
  | y :: ys, m => by
    obtain ⟨h1, h2⟩ := maxBy_spec h ys (if 0 < o y m then y else m)
    have h0 := h2 _ List.mem_cons_self
    refine ⟨?_, fun z hz => ?_⟩
    · rw [maxBy]
      rcases List.mem_cons.1 h1 with h3 | h3
      · rw [h3]; split <;> simp
      · simp [h3]
    · rw [maxBy]
      have ha := h.anti m y
      have hb := h.anti y m
      rcases List.mem_cons.1 hz with rfl | hz
      · refine h.trans _ _ _ ?_ h0
        split
        · omega
        · rw [h.refl]; omega
      · rcases List.mem_cons.1 hz with rfl | hz
        · refine h.trans _ _ _ ?_ h0
          split
          · rw [h.refl]; omega
          · omega
        · exact h2 z (List.mem_cons_of_mem _ hz)

theorem last_is_last (x : Fact) (xs : List Fact) : (regAll (x :: xs))[xs.length]? = some (maxBy regOrder x xs).value := by
  have hlen : (regSort (x :: xs)).length = xs.length + 1 := by rw [regSort_length]; rfl
  have hi : xs.length < (regSort (x :: xs)).length := by omega
  unfold regAll
  rw [List.getElem?_map, List.getElem?_eq_getElem hi, Option.map_some]
  obtain ⟨h1, h2⟩ := maxBy_spec good_reg xs x
  generalize maxBy regOrder x xs = m at *
  have hup := regSort_up (x :: xs)
  have hm : m ∈ regSort (x :: xs) := (regSort_perm _).mem_iff.2 h1
  have hl : (regSort (x :: xs))[xs.length] ∈ x :: xs := (regSort_perm _).mem_iff.1 (List.getElem_mem hi)
  have k1 := h2 _ hl
  obtain ⟨j, hj, hjm⟩ := List.getElem_of_mem hm
  have k2 : regOrder m (regSort (x :: xs))[xs.length] ≤ 0 := by
    rw [← hjm]
    rcases Nat.lt_or_ge j xs.length with hlt | hge
    · exact List.pairwise_iff_getElem.1 hup j xs.length hj hi hlt
    · have : j = xs.length := by omega
      subst this
      rw [good_reg.refl]; omega
  have k3 := good_reg.anti m (regSort (x :: xs))[xs.length]
  have k4 := good_reg.anti (regSort (x :: xs))[xs.length] m
  have hz : regOrder (regSort (x :: xs))[xs.length] m = 0 := by omega
  rw [(regOrder_zero.1 hz).2.2]

/-! Texts. -/
def ltS (a b : ByteArray) : Bool := Op.bytesLess a.toList b.toList
theorem stoS : Sto ltS := by
  refine ⟨fun a => ?_, fun a b d h1 h2 => ?_, fun a b hne => ?_⟩
  · cases h : ltS a a with
    | false => rfl
    | true => exact absurd (Good.less_toList.1 h) (List.lt_irrefl _)
  · exact Good.less_toList.2 (List.lt_trans (Good.less_toList.1 h1) (Good.less_toList.1 h2))
  · rcases Int.lt_trichotomy (cmpS a b) 0 with h | h | h
    · exact .inl (Good.less_toList.2 (Good.cmpS_neg.1 h))
    · exact absurd (Good.cmpS_zero.1 h) hne
    · exact .inr (Good.less_toList.2 (Good.cmpS_pos.1 h))

theorem mem_sortStr {v : ByteArray} {l : List ByteArray} : v ∈ sortStr l ↔ v ∈ l := by
  unfold sortStr
  simp only [List.mem_map, List.mem_mergeSort]
  constructor
  · rintro ⟨x, ⟨y, hy, rfl⟩, rfl⟩; rw [ofBytes_toList]; exact hy
  · intro h; exact ⟨v.toList, ⟨v, h, rfl⟩, ofBytes_toList v⟩

theorem sortStr_up (l : List ByteArray) : (sortStr l).Pairwise fun a b => ltS b a = false := by
  unfold sortStr
  have h := List.pairwise_mergeSort (le := fun (x y : List UInt8) => decide (x ≤ y)) (fun a b c h1 h2 => ?_) (fun a b => ?_) (l.map ByteArray.toList)
  · refine List.pairwise_map.2 (h.imp fun {a b} hab => ?_)
    cases hlt : ltS (ofBytes b) (ofBytes a) with
    | false => rfl
    | true =>
      have := Good.less_toList.1 hlt
      rw [toList_ofBytes, toList_ofBytes] at this
      exact absurd this (List.not_lt.2 (of_decide_eq_true hab))
  · exact decide_eq_true (List.le_trans (of_decide_eq_true h1) (of_decide_eq_true h2))
  · rcases List.le_total a b with h | h <;> simp [h]

theorem pack_map {α β : Type} [DecidableEq α] [DecidableEq β] (f : α → β) (hf : ∀ a b, f a = f b ↔ a = b) : ∀ (l : List α), pack (l.map f) = (pack l).map f
  | [] => rfl
  | [x] => rfl
  | x :: y :: l => by
    have := pack_map f hf (y :: l)
    simp only [List.map_cons] at this ⊢
    unfold pack
    rw [this]
    by_cases e : x = y
    · simp [e]
    · simp [e, hf]

theorem packStr_eq (l : List ByteArray) : packStr l = pack l := by
  unfold packStr
  rw [lib_compact, pack_map _ (fun a b => Good.toList_inj), List.map_map]
  have : ofBytes ∘ ByteArray.toList = id := funext ofBytes_toList
  rw [this, List.map_id]

theorem regElements_ris (l : List Fact) : Ris ltS (regElements l) := by
  unfold regElements
  rw [packStr_eq]
  exact stoS.pack_ris (sortStr_up _)
theorem mem_regElements {v : ByteArray} {l : List Fact} : v ∈ regElements l ↔ ∃ f ∈ l, f.value = v := by
  unfold regElements
  rw [packStr_eq, mem_pack, mem_sortStr]
  unfold regAll
  rw [List.mem_map]
  constructor
  · rintro ⟨f, hf, rfl⟩; exact ⟨f, (regSort_perm _).mem_iff.1 hf, rfl⟩
  · rintro ⟨f, hf, rfl⟩; exact ⟨f, (regSort_perm _).mem_iff.2 hf, rfl⟩
theorem all_are_elements (l : List Fact) : ∀ v ∈ regAll l, v ∈ regElements l := by
  intro v hv
  unfold regAll at hv
  obtain ⟨f, hf, rfl⟩ := List.mem_map.1 hv
  exact mem_regElements.2 ⟨f, (regSort_perm _).mem_iff.1 hf, rfl⟩

end Go.Proofs.Av
