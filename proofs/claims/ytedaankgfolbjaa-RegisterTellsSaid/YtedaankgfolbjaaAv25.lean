/- slices.SortFunc at structs, as a function that turns a slice where it lies. -/
import Derived.Test.YtedaankgfolbjaaAv22
import Derived.Test.YtedaankgfolbjaaAv18
import Derived.Shelf.SlSortCmp.NoneTotal
set_option linter.unusedVariables false
set_option linter.unusedSimpArgs false
namespace Go.Proofs.Av
open Go.RowKit Go.Sort Go.Shelf Go.Proofs

/-- Things whose cells are scalars, as values. -/
class Flat (β : Type) [Cell β] where
  vs : β → List Value
  c : ∀ b, Cell.c b = (vs b).map PV.sc
  one : ∀ b, ∀ v ∈ vs b, v.oneCell' = true
  pos : 0 < Cell.n β

theorem Flat.len {β : Type} [Cell β] [Flat β] (b : β) : (Flat.vs b).length = Cell.n β := by
  have := Cell.len b
  rw [Flat.c] at this
  simpa using this

def sortBy {β : Type} [Inhabited β] (cf : β → β → Int) (l : List β) : List β := (pdq (ltOf cf) l.toArray 0 l.length (Lib.bitLen l.length) true true).toList

theorem sortBy_both {β : Type} [Inhabited β] {cf : β → β → Int} (hO : SWO (ltOf cf)) (l : List β) : (sortBy cf l).Perm l ∧ (sortBy cf l).Pairwise fun a b => ltOf cf b a = false := by
  have h := pdq_sorts (ltOf cf) hO l.toArray 0 l.toArray.size (Lib.bitLen l.toArray.size) true true (Nat.zero_le _) (Nat.le_refl _) (Or.inl rfl)
  simp only [List.size_toArray] at h
  obtain ⟨⟨h1, h2, h3⟩, h4⟩ := h
  unfold sortBy
  generalize pdq (ltOf cf) l.toArray 0 l.length (Lib.bitLen l.length) true true = d at *
  simp only [List.size_toArray] at h1
  refine ⟨?_, ?_⟩
  · have e1 : d.extract 0 l.length = d := by rw [← h1]; simp
    rw [e1] at h3
    simpa using h3
  · refine List.pairwise_iff_getElem.2 fun i j hi hj hij => ?_
    simp only [Array.length_toList] at hi hj
    have := h4 i j (Nat.zero_le _) hij (by omega)
    simpa [getElem!_pos, hi, hj] using this

theorem bel_grow {W w' : World} (h : Bel W.heap.size W w') : ∃ q os', w' = grow (W.drewN q) os' := by
  refine ⟨w'.drawn - W.drawn, w'.heap.extract W.heap.size w'.heap.size, ?_⟩
  have hh : w'.heap = W.heap ++ w'.heap.extract W.heap.size w'.heap.size := by
    apply Array.ext_getElem?
    intro i
    rcases Nat.lt_or_ge i W.heap.size with hi | hi
    · rw [Array.getElem?_append_left hi]; exact h.block i hi
    · rw [Array.getElem?_append_right hi, Array.getElem?_extract]
      have hs := h.size
      split
      · congr 1; omega
      · exact Array.getElem?_eq_none (by omega)
  have hd := h.drawn
  have h1 := h.os
  have h2 := h.tape
  have h3 := h.output
  obtain ⟨a1, a2, a3, a4, a5⟩ := W
  obtain ⟨b1, b2, b3, b4, b5⟩ := w'
  simp only at hh hd h1 h2 h3
  simp only [grow, World.drewN]
  subst h1; subst h2; subst h3
  congr 1
  omega

section
variable {P : Program} {ρ : Ren}

theorem flat_get {β : Type} [Cell β] [Flat β] [Inhabited β] (l : List β) (i j : Nat) (hi : i < l.length) (hj : j < Cell.n β) :
    (flatK Flat.vs (Cell.n β) l.toArray).toList[i * Cell.n β + j]? = some ((Flat.vs l[i])[j]'(by rw [Flat.len]; exact hj)) := by
  have hlt : i * Cell.n β + j < l.length * Cell.n β := by
    have := Nat.mul_le_mul_right (Cell.n β) (show i + 1 ≤ l.length from hi)
    rw [Nat.add_mul, Nat.one_mul] at this
    omega
  have hs : i * Cell.n β + j < (flatK Flat.vs (Cell.n β) l.toArray).size := by simpa using hlt
  have := get_flatK Flat.vs (Cell.n β) l.toArray (i * Cell.n β + j) (by simpa using hlt)
  rw [getElem!_pos (flatK Flat.vs (Cell.n β) l.toArray) (i * Cell.n β + j) hs] at this
  rw [Array.getElem?_toList, Array.getElem?_eq_getElem hs, this]
  have hd : (i * Cell.n β + j) / Cell.n β = i := by
    rw [Nat.mul_comm, Nat.mul_add_div (Flat.pos (β := β)), Nat.div_eq_of_lt hj, Nat.add_zero]
  have hm : (i * Cell.n β + j) % Cell.n β = j := by
    rw [Nat.mul_comm, Nat.mul_add_mod, Nat.mod_eq_of_lt hj]
  have hj' : j < (Flat.vs l[i]).length := by rw [Flat.len]; exact hj
  simp [hd, hm, getElem!_pos, hi, hj']

theorem flat_row {β : Type} [Cell β] [Flat β] [Inhabited β] {base : Nat} {w : World} {v : Value} {e : Nat} {l : List β} (he : e < raw0) (h : w.ownsRow base e (Cell.n β) v l.length (flatK Flat.vs (Cell.n β) l.toArray).toList) : RowOk base noS w v e (Cell.n β) (l.map Cell.c) := by
  have hpos : 0 < Cell.n β := Flat.pos
  refine .inr ⟨hpos, _, by rw [ety_small he]; simpa using h, fun x hx => ?_, fun el hel => ?_, fun i j el x hi hx => ?_⟩
  · obtain ⟨t, ht, rfl⟩ := List.getElem_of_mem hx
    have hlt : t < l.length * Cell.n β := by simpa using ht
    have hi : t / Cell.n β < l.length := Nat.div_lt_of_lt_mul (by rw [Nat.mul_comm]; exact hlt)
    have hj : t % Cell.n β < Cell.n β := Nat.mod_lt _ hpos
    have := flat_get l (t / Cell.n β) (t % Cell.n β) hi hj
    rw [Nat.mul_comm, Nat.div_add_mod, List.getElem?_eq_getElem ht] at this
    rw [Option.some.inj this]
    exact Flat.one _ _ (List.getElem_mem _)
  · obtain ⟨b, _, rfl⟩ := List.mem_map.1 hel
    exact Cell.len b
  · obtain ⟨b, hb, rfl⟩ := map_getElem? _ _ _ _ hi
    obtain ⟨hil, rfl⟩ := List.getElem?_eq_some_iff.1 hb
    have hjl : j < Cell.n β := by rw [← Cell.len l[i]]; exact (List.getElem?_eq_some_iff.1 hx).1
    refine ⟨_, flat_get l i j hil hjl, ?_⟩
    rw [Flat.c, List.getElem?_map] at hx
    obtain ⟨u, hu, rfl⟩ := Option.map_eq_some_iff.1 hx
    obtain ⟨_, rfl⟩ := List.getElem?_eq_some_iff.1 hu
    exact .sc (Flat.one _ _ (List.getElem_mem _))

theorem row_flat {β : Type} [Cell β] [Flat β] [Inhabited β] {base : Nat} {S : Stb} {w : World} {v : Value} {e : Nat} {l : List β} (he : e < raw0) (h : RowOk base S w v e (Cell.n β) (l.map Cell.c)) : w.ownsRow base e (Cell.n β) v l.length (flatK Flat.vs (Cell.n β) l.toArray).toList := by
  have hpos : 0 < Cell.n β := Flat.pos
  rcases h with ⟨h0, _⟩ | ⟨hk, xs, ho, h1, h2, h3⟩
  · omega
  rw [ety_small he] at ho
  simp only [List.length_map] at ho
  have hX : xs = (flatK Flat.vs (Cell.n β) l.toArray).toList := by
    refine List.ext_getElem? fun t => ?_
    by_cases ht : t < l.length * Cell.n β
    · have hi : t / Cell.n β < l.length := Nat.div_lt_of_lt_mul (by rw [Nat.mul_comm]; exact ht)
      have hj : t % Cell.n β < Cell.n β := Nat.mod_lt _ hpos
      have hg := flat_get l (t / Cell.n β) (t % Cell.n β) hi hj
      have hjc : t % Cell.n β < (Flat.vs l[t / Cell.n β]).length := by rw [Flat.len]; exact hj
      obtain ⟨u, hu, hrep⟩ := h3 (t / Cell.n β) (t % Cell.n β) (Cell.c l[t / Cell.n β]) (.sc ((Flat.vs l[t / Cell.n β])[t % Cell.n β])) (by simp [hi]) (by rw [Flat.c]; simp [hjc])
      rw [Nat.mul_comm, Nat.div_add_mod] at hg hu
      rw [hg, hu, hrep.scv]
    · have := ho.1
      rw [List.getElem?_eq_none (by omega), List.getElem?_eq_none (by simp; omega)]
  rw [← hX]
  exact ho

/-- **slices.SortFunc at structs.** -/
theorem inPl_sort {β : Type} [Cell β] [Flat β] [Inhabited β] [Ty β] (L : SlLaysF0.n6 P ρ) (aE : ∀ w, (isAgg (ρ.t 24)).run P w = .ok true w) (zE : ∀ w, (Go.sizeOf (ρ.t 24)).run P w = .ok (Cell.n β) w)
    {cf : β → β → Int} (hO : SWO (ltOf cf)) {g : FuncId} (hg : PureC P g (fn2 fun a b : β => some (cf a b))) (eg : Enters P g) (hte : ∀ b : β, Ty.e b = PV.agg (Cell.c b)) {e : Nat} (he : e < raw0) :
    InPl P (ρ.f 6) [.func (.func g) #[] #[]] e fun l : List β => if l.length ≤ 1048576 then some (sortBy cf l) else none := by
  intro base w v l l' hs hbase hrow
  simp only at hs
  split at hs
  case isFalse => cases hs
  rename_i hlim
  cases hs
  have hperm := (sortBy_both hO l).1
  have ho := row_flat he hrow
  rcases ho.2 with ⟨rfl, hn⟩ | ⟨blk, cap, cur, rfl, hbg, hgb, hnc, hcm, hcs, htake⟩
  · have hl0 : l = [] := List.eq_nil_of_length_eq_zero hn
    subst hl0
    have hs0 : sortBy cf ([] : List β) = [] := List.Perm.eq_nil hperm
    refine (AnyF.slices_SortFunc_none L none 0 _ w).mono fun r w' ⟨hr, hw⟩ => ?_
    subst hw
    exact ⟨hr, ⟨rfl, rfl, rfl, Nat.le_refl _, fun _ _ _ => rfl⟩, Nat.le_refl _, by rw [hs0]; exact hrow⟩
  · have hH : HoldsK Flat.vs (Cell.n β) w blk 0 l.toArray := by
      refine holds_row id (n := l.length * Cell.n β) (cap := cap) hgb (by simp) ?_
      rw [htake]
      simp
    have hblk : blk < w.heap.size := (Array.getElem?_eq_some_iff.1 hgb).1
    have hcmp : CmpLays P g #[] Flat.vs (Cell.n β) cf blk 0 l.toArray.size w := by
      intro m os dk hdk x y
      have hag : ∀ (S : Stb) (W : World) (b : β), RepP S W (.agg (Flat.vs b).toArray) (Ty.e b) := by
        intro S W b
        rw [hte, Flat.c]
        refine .agg (by simp) (Flat.one b) fun i v c hv hc => ?_
        rw [List.getElem?_map, hv] at hc
        cases hc
        exact .sc (Flat.one b v (List.mem_of_getElem? hv))
      have := hg (fun _ _ => True) (sortWorldK Flat.vs (Cell.n β) w blk 0 m dk os) [.agg (Flat.vs x).toArray, .agg (Flat.vs y).toArray] [Ty.e x, Ty.e y] (Ty.e (cf x y)) (fun _ _ _ => trivial) (.cons (hag _ _ x) (.cons (hag _ _ y) .nil)) (by simp [fn2, Ty.de])
      refine this.mono fun r w' ⟨u, hr, hb, hrep⟩ => ?_
      have hu : u = .int .i64 (cf x y) := hrep.scv
      subst hu
      exact ⟨hr, bel_grow hb⟩
    have hc := AnyQ.slices_SortFunc_eq L (Cell.n β) aE zE Flat.vs Flat.len Flat.one cf hO g #[] blk 0 cap l.toArray w eg hcmp hH hblk (by simp; omega)
    simp only [List.size_toArray] at hc
    refine hc.mono ?_
    rintro r w' ⟨hr, n, os, hw⟩
    change w' = grow (putRow id (Sort.ahead w n) blk 0 (flatK Flat.vs (Cell.n β) (pdq (ltOf cf) l.toArray 0 l.length (Lib.bitLen l.length) true true))) os at hw
    have hsz : (pdq (ltOf cf) l.toArray 0 l.length (Lib.bitLen l.length) true true).size = l.length := by
      have := hperm.length_eq
      simpa [sortBy] using this
    obtain ⟨k1, k2, k3⟩ := put_row (k := Cell.n β) (n := l.length) hbg hgb hnc hcm hcs n (flatK Flat.vs (Cell.n β) (pdq (ltOf cf) l.toArray 0 l.length (Lib.bitLen l.length) true true)) os (by simp [hsz])
    subst hw
    refine ⟨hr, k1, k2, flat_row he ?_⟩
    have hl' : (sortBy cf l).length = l.length := hperm.length_eq
    rw [hl']
    simpa [sortBy] using k3

end
end Go.Proofs.Av
