/- New variables, new slices, stores, appends: what they make of the relation. -/
import Derived.Test.YtedaankgfolbjaaAv3
namespace Go.Proofs.Av
open Go.RowKit

section
variable {G : Stb} {base : Nat} {M : Nat → Prop} {w0 w : World} {hp : List HObj} {bl : Nat → Option Nat} {rv : Nat → Value}

abbrev nilRow : HObj := .row 0 0 0 []

def blNew (bl : Nat → Option Nat) (n B : Nat) : Nat → Option Nat := fun i => if i = n then some B else bl i
def rvNew (rv : Nat → Value) (n : Nat) : Nat → Value := fun i => if i < n then rv i else .slice none 0 0

theorem newBox_get {o : HObj} {m i : Nat} {e k v : Nat} {es : List (List PV)} (ho : ∃ cs, o = .box cs) (h : (hp ++ o :: List.replicate m nilRow)[i]? = some (.row e k v es)) :
    (i < hp.length ∧ hp[i]? = some (.row e k v es)) ∨ (hp.length < i ∧ k = 0 ∧ v = 0 ∧ es = [] ∧ e = 0) := by
  obtain ⟨cs, rfl⟩ := ho
  rcases Nat.lt_or_ge i hp.length with hlt | hge
  · rw [List.getElem?_append_left hlt] at h
    exact .inl ⟨hlt, h⟩
  · rw [List.getElem?_append_right hge] at h
    rcases hj : i - hp.length with _ | j
    · rw [hj] at h; simp at h
    · rw [hj] at h
      simp [List.getElem?_replicate] at h
      obtain ⟨_, h1, h2, h3, h4⟩ := h
      exact .inr ⟨by omega, h2.symm, h3.symm, h4, h1.symm⟩

theorem newBox_box {cs0 : List AV} {m i : Nat} {cs : List AV} (h : (hp ++ .box cs0 :: List.replicate m nilRow)[i]? = some (.box cs)) :
    (i < hp.length ∧ hp[i]? = some (.box cs)) ∨ (i = hp.length ∧ cs = cs0) := by
  rcases Nat.lt_or_ge i hp.length with hlt | hge
  · rw [List.getElem?_append_left hlt] at h
    exact .inl ⟨hlt, h⟩
  · rw [List.getElem?_append_right hge] at h
    rcases hj : i - hp.length with _ | j
    · rw [hj] at h; simp at h; exact .inr ⟨by omega, h.symm⟩
    · rw [hj] at h
      simp [List.getElem?_replicate] at h

theorem RelH.newBox_le (h : RelH G base M w0 hp bl rv w) (cs : List AV) (m : Nat) (o : Obj) :
    (cx G hp bl rv w).le (cx G (hp ++ .box cs :: List.replicate m nilRow) (blNew bl hp.length w.heap.size) (rvNew rv hp.length) (w.alloc o)) := by
  refine ⟨fun b o' u s c => ⟨⟨s.1, fun i hi => ?_, fun i e k ver es hr ho => ?_⟩, ?_⟩, fun i B hB => ?_, fun r ver val hr => ?_⟩
  · have hb := cell_lt (w := w) c
    simp only [blNew] at hi
    split at hi
    · change b < w.heap.size at hb
      simp at hi; omega
    · exact s.2.1 i hi
  · rcases newBox_get ⟨cs, rfl⟩ hr with ⟨hlt, hr'⟩ | ⟨hgt, _⟩
    · simp only [rvNew, hlt, if_true] at ho
      exact s.2.2 i e k ver es hr' ho
    · simp [rvNew, Nat.not_lt.2 (Nat.le_of_lt hgt), Value.ownBlock] at ho
  · exact (World.cell?_alloc_lt w o ⟨b, o', none⟩ (cell_lt (w := w) c)).trans c
  · simp only [cx, blNew]
    rw [if_neg (by have := (h.bl_lt hB).2; omega)]
    exact hB
  · obtain ⟨hval, e, k, es, hr'⟩ := rwOf_some hr
    have hlt : r < hp.length := (List.getElem?_eq_some_iff.1 hr').1
    refine ⟨ver, val, ?_, Nat.le_refl _, fun _ => rfl⟩
    simp only [cx]
    rw [rwOf_row (e := e) (k := k) (ver := ver) (es := es) (by rw [List.getElem?_append_left hlt]; exact hr')]
    simp [rvNew, hlt, hval]

theorem RelH.newBox (h : RelH G base M w0 hp bl rv w) (cs : List AV) (m : Nat) (arr : Array Value) (e : TypeId) (hsz : cs.length ≤ arr.size) (hng : ∀ c ∈ cs, c.ng = true)
    (hc : ∀ (j : Nat) v c, arr[j]? = some v → cs[j]? = some c → v.oneCell' = true ∧
      RepA (cx G (hp ++ .box cs :: List.replicate m nilRow) (blNew bl hp.length w.heap.size) (rvNew rv hp.length) (w.alloc (.cells arr e))) v c) :
    RelH G base M w0 (hp ++ .box cs :: List.replicate m nilRow) (blNew bl hp.length w.heap.size) (rvNew rv hp.length) (w.alloc (.cells arr e)) := by
  have hle := h.newBox_le cs m (.cells arr e)
  have hb : Bel w.heap.size w (w.alloc (.cells arr e)) := .alloc _ _ (Nat.le_refl _) _
  refine ⟨h.fr.trans (.of_below hb h.hb), h.hG, by simpa using Nat.le_succ_of_le h.hb, ?_, ?_, ?_, ?_, ?_, ?_, ?_⟩
  · intro i cs' hi
    rcases newBox_box hi with ⟨hlt, hi'⟩ | ⟨rfl, rfl⟩
    · obtain ⟨B, arr', e', h1, h2, h3, h4, h5⟩ := h.box i cs' hi'
      refine ⟨B, arr', e', ?_, (hb.block B (h.bl_lt h1).1).trans h2, h3, fun j v c hv hc => ⟨(h4 j v c hv hc).1, (h4 j v c hv hc).2.le hle⟩, h5⟩
      simp only [blNew]
      rw [if_neg (by omega)]
      exact h1
    · exact ⟨w.heap.size, arr, e, by simp [blNew], Go.heap_alloc_new w _, hsz, hc, .inl h.hb⟩
  · intro i e' k ver es hr
    rcases newBox_get ⟨cs, rfl⟩ hr with ⟨hlt, hr'⟩ | ⟨hgt, rfl, rfl, rfl, rfl⟩
    · have hrv : rvNew rv hp.length i = rv i := by simp [rvNew, hlt]
      rw [hrv]
      rcases h.row i e' k ver es hr' with h0 | ⟨hk, xs, ho, h1, h2, h3⟩
      · exact .inl h0
      · refine .inr ⟨hk, xs, ?_, h1, h2, fun a b el x he hx => ?_⟩
        · refine ho.kept (row := none) ⟨hb.os, hb.tape, hb.output, hb.size, fun k hk _ => hb.block k hk⟩ ?_
          cases (rv i).ownBlock <;> simp
        · obtain ⟨u, hu, hrep⟩ := h3 a b el x he hx
          exact ⟨u, hu, RepP.le (C := cx G hp bl rv w) hle hrep⟩
    · refine .inl ⟨rfl, rfl, ?_⟩
      simp [rvNew, Nat.not_lt.2 (Nat.le_of_lt hgt)]
  · intro i B hB
    simp only [blNew] at hB
    split at hB
    · rename_i hi
      subst hi
      exact ⟨cs, by simp⟩
    · obtain ⟨cs', hcs'⟩ := h.only i B hB
      exact ⟨cs', by rw [List.getElem?_append_left (h.bl_lt hB).2]; exact hcs'⟩
  · intro i j B hi hj
    simp only [blNew] at hi hj
    split at hi <;> split at hj
    · omega
    · have := (h.bl_lt hj).1; simp at hi; omega
    · have := (h.bl_lt hi).1; simp at hj; omega
    · exact h.inj i j B hi hj
  · intro i j e1 k1 v1 es1 e2 k2 v2 es2 b h1 h2 hb1 hb2
    rcases newBox_get ⟨cs, rfl⟩ h1 with ⟨l1, h1'⟩ | ⟨g1, _⟩
    · rcases newBox_get ⟨cs, rfl⟩ h2 with ⟨l2, h2'⟩ | ⟨g2, _⟩
      · simp only [rvNew, l1, l2, if_true] at hb1 hb2
        exact h.rinj i j _ _ _ _ _ _ _ _ b h1' h2' hb1 hb2
      · simp [rvNew, Nat.not_lt.2 (Nat.le_of_lt g2), Value.ownBlock] at hb2
    · simp [rvNew, Nat.not_lt.2 (Nat.le_of_lt g1), Value.ownBlock] at hb1
  · intro i j e' k v es B hr ho
    rcases newBox_get ⟨cs, rfl⟩ hr with ⟨hlt, hr'⟩ | ⟨hgt, _⟩
    · simp only [rvNew, hlt, if_true] at ho
      have hBlt := ((h.row i e' k v es hr').lt ho).1
      simp only [blNew]
      split
      · simp; omega
      · exact h.brow i j e' k v es B hr' ho
    · simp [rvNew, Nat.not_lt.2 (Nat.le_of_lt hgt), Value.ownBlock] at ho
  · intro i cs' hi
    rcases newBox_box hi with ⟨_, hi'⟩ | ⟨_, rfl⟩
    · exact h.ng i cs' hi'
    · exact hng

/-- A new slice of nothing. -/
theorem RelH.newRow (h : RelH G base M w0 hp bl rv w) :
    RelH G base M w0 (hp ++ [nilRow]) bl (rvNew rv hp.length) w ∧ (cx G hp bl rv w).le (cx G (hp ++ [nilRow]) bl (rvNew rv hp.length) w) := by
  have get : ∀ {i e k v es}, (hp ++ [nilRow])[i]? = some (.row e k v es) → (i < hp.length ∧ hp[i]? = some (.row e k v es)) ∨ (i = hp.length ∧ k = 0 ∧ es = []) := by
    intro i e k v es hr
    rcases Nat.lt_or_ge i hp.length with hlt | hge
    · rw [List.getElem?_append_left hlt] at hr
      exact .inl ⟨hlt, hr⟩
    · rw [List.getElem?_append_right hge] at hr
      rcases hj : i - hp.length with _ | j
      · rw [hj] at hr; simp at hr; obtain ⟨_, h2, _, h4⟩ := hr; exact .inr ⟨by omega, h2.symm, h4⟩
      · rw [hj] at hr; simp at hr
  have getb : ∀ {i : Nat} {cs}, (hp ++ [nilRow])[i]? = some (.box cs) → hp[i]? = some (.box cs) := by
    intro i cs hr
    rcases Nat.lt_or_ge i hp.length with hlt | hge
    · rwa [List.getElem?_append_left hlt] at hr
    · rw [List.getElem?_append_right hge] at hr
      rcases hj : i - hp.length with _ | j
      · rw [hj] at hr; simp at hr
      · rw [hj] at hr; simp at hr
  have hle : (cx G hp bl rv w).le (cx G (hp ++ [nilRow]) bl (rvNew rv hp.length) w) := by
    refine ⟨fun b o' u s c => ⟨⟨s.1, s.2.1, fun i e k ver es hr ho => ?_⟩, c⟩, fun i B hB => hB, fun r ver val hr => ?_⟩
    · rcases get hr with ⟨hlt, hr'⟩ | ⟨rfl, _⟩
      · simp only [rvNew, hlt, if_true] at ho
        exact s.2.2 i e k ver es hr' ho
      · simp [rvNew, Value.ownBlock] at ho
    · obtain ⟨hval, e, k, es, hr'⟩ := rwOf_some hr
      have hlt : r < hp.length := (List.getElem?_eq_some_iff.1 hr').1
      refine ⟨ver, val, ?_, Nat.le_refl _, fun _ => rfl⟩
      simp only [cx]
      rw [rwOf_row (e := e) (k := k) (ver := ver) (es := es) (by rw [List.getElem?_append_left hlt]; exact hr')]
      simp [rvNew, hlt, hval]
  refine ⟨⟨h.fr, h.hG, h.hb, ?_, ?_, ?_, h.inj, ?_, ?_, fun i cs hi => h.ng i cs (getb hi)⟩, hle⟩
  · intro i cs hi
    obtain ⟨B, arr', e', h1, h2, h3, h4, h5⟩ := h.box i cs (getb hi)
    exact ⟨B, arr', e', h1, h2, h3, fun j v c hv hc => ⟨(h4 j v c hv hc).1, (h4 j v c hv hc).2.le hle⟩, h5⟩
  · intro i e' k ver es hr
    rcases get hr with ⟨hlt, hr'⟩ | ⟨rfl, rfl, rfl⟩
    · have hrv : rvNew rv hp.length i = rv i := by simp [rvNew, hlt]
      rw [hrv]
      rcases h.row i e' k ver es hr' with h0 | ⟨hk, xs, ho, h1, h2, h3⟩
      · exact .inl h0
      · exact .inr ⟨hk, xs, ho, h1, h2, fun a b el x he hx => by
          obtain ⟨u, hu, hrep⟩ := h3 a b el x he hx
          exact ⟨u, hu, RepP.le (C := cx G hp bl rv w) hle hrep⟩⟩
    · exact .inl ⟨rfl, rfl, by simp [rvNew]⟩
  · intro i B hB
    obtain ⟨cs', hcs'⟩ := h.only i B hB
    exact ⟨cs', by rw [List.getElem?_append_left (h.bl_lt hB).2]; exact hcs'⟩
  · intro i j e1 k1 v1 es1 e2 k2 v2 es2 b h1 h2 hb1 hb2
    rcases get h1 with ⟨l1, h1'⟩ | ⟨rfl, _⟩
    · rcases get h2 with ⟨l2, h2'⟩ | ⟨rfl, _⟩
      · simp only [rvNew, l1, l2, if_true] at hb1 hb2
        exact h.rinj i j _ _ _ _ _ _ _ _ b h1' h2' hb1 hb2
      · simp [rvNew, Value.ownBlock] at hb2
    · simp [rvNew, Value.ownBlock] at hb1
  · intro i j e' k v es B hr ho
    rcases get hr with ⟨hlt, hr'⟩ | ⟨rfl, _⟩
    · simp only [rvNew, hlt, if_true] at ho
      exact h.brow i j e' k v es B hr' ho
    · simp [rvNew, Value.ownBlock] at ho

/-- A store into a variable. -/
theorem RelH.store (h : RelH G base M w0 hp bl rv w) {i B : Nat} {cs cs' : List AV} {arr arr' : Array Value} {e : TypeId} (hi : hp[i]? = some (.box cs)) (hB : bl i = some B)
    (hh : w.heap[B]? = some (.cells arr e (0, 0))) (hsz : cs'.length ≤ arr'.size) (hng : ∀ c ∈ cs', c.ng = true)
    (hc : ∀ (j : Nat) v c, arr'[j]? = some v → cs'[j]? = some c → v.oneCell' = true ∧ RepA (cx G hp bl rv w) v c) :
    RelH G base M w0 (hp.set i (.box cs')) bl rv (w.setRow B arr') ∧ (cx G hp bl rv w).le (cx G (hp.set i (.box cs')) bl rv (w.setRow B arr')) := by
  have hil : i < hp.length := (List.getElem?_eq_some_iff.1 hi).1
  have get : ∀ {j : Nat} {e k v es}, (hp.set i (.box cs'))[j]? = some (.row e k v es) → j ≠ i ∧ hp[j]? = some (.row e k v es) := by
    intro j e k v es hr
    by_cases hj : i = j
    · subst hj; simp [hil] at hr
    · rw [List.getElem?_set_ne hj] at hr; exact ⟨fun e => hj e.symm, hr⟩
  have put : ∀ {j : Nat} {e k v es}, hp[j]? = some (.row e k v es) → (hp.set i (.box cs'))[j]? = some (.row e k v es) := by
    intro j e k v es hr
    by_cases hj : i = j
    · subst hj; rw [hi] at hr; cases hr
    · rw [List.getElem?_set_ne hj]; exact hr
  have hle : (cx G hp bl rv w).le (cx G (hp.set i (.box cs')) bl rv (w.setRow B arr')) := by
    refine ⟨fun b o' u s c => ⟨⟨s.1, s.2.1, fun j e k ver es hr ho => s.2.2 j e k ver es (get hr).2 ho⟩, ?_⟩, fun i B hB => hB, fun r ver val hr => ?_⟩
    · have hne : b ≠ B := fun e => s.2.1 i (by rw [e]; exact hB)
      exact (World.cell?_of_block (a := ⟨b, o', none⟩) (setRow_other w B b arr' hne)).trans c
    · obtain ⟨hval, e, k, es, hr'⟩ := rwOf_some hr
      exact ⟨ver, val, by simp only [cx]; rw [rwOf_row (put hr'), hval], Nat.le_refl _, fun _ => rfl⟩
  obtain ⟨B0, _, _, hB0, _, _, _, hBM⟩ := h.box i cs hi
  rw [hB] at hB0
  cases hB0
  have hfr : Fr base M w (w.setRow B arr') := ⟨rfl, rfl, rfl, by simp [World.setRow], fun k hk hm => setRow_other w B k arr' (fun e => by
    subst e
    rcases hBM with hBM | hBM
    · omega
    · exact hm hBM), Nat.le_refl _⟩
  refine ⟨⟨h.fr.trans hfr, h.hG, Nat.le_trans h.hb hfr.size, ?_, ?_, ?_, h.inj, ?_, ?_, ?_⟩, hle⟩
  · intro j cs1 hj
    by_cases hji : i = j
    · subst hji
      simp [hil] at hj
      subst hj
      exact ⟨B, arr', e, hB, setRow_heap w B arr arr' e _ hh, hsz, fun j v c hv hc' => ⟨(hc j v c hv hc').1, (hc j v c hv hc').2.le hle⟩, hBM⟩
    · rw [List.getElem?_set_ne hji] at hj
      obtain ⟨B1, arr1, e1, h1, h2, h3, h4, h5⟩ := h.box j cs1 hj
      refine ⟨B1, arr1, e1, h1, ?_, h3, fun j v c hv hc => ⟨(h4 j v c hv hc).1, (h4 j v c hv hc).2.le hle⟩, h5⟩
      exact (setRow_other w B B1 arr' (fun e => hji (by subst e; exact h.inj i j _ hB h1))).trans h2
  · intro j e' k ver es hr
    obtain ⟨_, hr'⟩ := get hr
    rcases h.row j e' k ver es hr' with h0 | ⟨hk, xs, ho, h1, h2, h3⟩
    · exact .inl h0
    · refine .inr ⟨hk, xs, ?_, h1, h2, fun a b el x he hx => by
        obtain ⟨u, hu, hrep⟩ := h3 a b el x he hx
        exact ⟨u, hu, RepP.le (C := cx G hp bl rv w) hle hrep⟩⟩
      refine ho.kept (row := some B) ⟨rfl, rfl, rfl, by simp [World.setRow], fun k _ hk => setRow_other w B k arr' (fun e => hk (by rw [e]))⟩ ?_
      refine .inr (fun e => ?_)
      exact h.brow j i e' k ver es B hr' e hB
  · intro j B1 hB1
    obtain ⟨cs1, hcs1⟩ := h.only j B1 hB1
    by_cases hji : i = j
    · subst hji; exact ⟨cs', by simp [hil]⟩
    · exact ⟨cs1, by rw [List.getElem?_set_ne hji]; exact hcs1⟩
  · intro j j' e1 k1 v1 es1 e2 k2 v2 es2 b h1 h2 hb1 hb2
    exact h.rinj j j' _ _ _ _ _ _ _ _ b (get h1).2 (get h2).2 hb1 hb2
  · intro j j' e' k v es B1 hr ho
    exact h.brow j j' e' k v es B1 (get hr).2 ho
  · intro j cs1 hj
    by_cases hji : i = j
    · subst hji
      simp [hil] at hj
      subst hj
      exact hng
    · rw [List.getElem?_set_ne hji] at hj
      exact h.ng j cs1 hj

end
end Go.Proofs.Av
