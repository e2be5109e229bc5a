/- append onto a growing slice; forgetting what lies at the end. -/
import Derived.Test.YtedaankgfolbjaaAv4
namespace Go.Proofs.Av
open Go.RowKit

section
variable {P : Program} (w : World)

/-- 'append' onto an owned row: in its own block; or in a new one, and then nothing that was there has turned. (The library's proof of run_append_own_at with two limbs more.) -/
theorem run_append_two (base : Nat) (t ty e : TypeId) (i : TypeInfo) (z : Value) (size bytes : Nat) (ht : P.underlying t = some (.slice e)) (hi : P.info? e = some i) (hz : i.zero = some z)
    (hsize : i.size = size) (hby : i.bytes = bytes) (hzs : z.cells.size = size) (hsz : 0 < size)
    (v : Value) (n : Nat) (xs : List Value) (hown : w.ownsRow base e size v n xs)
    (x : Value) (A : Option Addr) (m c : Nat) (hx : x = .slice A m c) (news : List Value) (hl : news.length = m * size)
    (hnews : 0 < m → ∃ a, A = some a ∧ ∀ (j : Nat) u, news[j]? = some u → w.cell? (a.add j) = some u) (h1 : ∀ u ∈ news, u.oneCell' = true)
    (h63 : n + m ≤ maxLen) (hbytes : (n + m) * bytes ≤ 140737488355328) (hbase : base ≤ w.heap.size) :
    ∃ v' w', (Builtin.append_ #[t, t] ty #[v, x]).run P w = .ok v' w' ∧ w'.ownsRow base e size v' (n + m) (xs ++ news) ∧
      ((v'.ownBlock = v.ownBlock ∧ w.grownBy w' v.ownBlock) ∨ (v'.ownBlock = some w.heap.size ∧ w.grownBy w' none)) ∧ w.drawn ≤ w'.drawn := by
  subst hx
  subst hsize
  subst hby
  have hsmall : n + m ≤ 9223372036854775807 := by simp only [maxLen] at h63; omega
  have hlen : (xs ++ news).length = (n + m) * i.size := by rw [List.length_append, hown.1, hl, Nat.add_mul]
  by_cases hm0 : m = 0
  · subst hm0
    have hn : news = [] := List.eq_nil_of_length_eq_zero (by simpa using hl)
    subst hn
    refine ⟨v, w, ?_, by simpa using hown, .inl ⟨rfl, ⟨rfl, rfl, rfl, Nat.le_refl _, fun _ _ _ => rfl⟩⟩, Nat.le_refl _⟩
    rcases hown.2 with ⟨rfl, rfl⟩ | ⟨g, cap, cur, rfl, _, _, hnc, _⟩
    · cases A <;> simp [Builtin.append_, run_underlying ht, sizeOf, typeInfo, hi, Builtin.lenOf, Builtin.firstCells, loadCells, loadCellsFrom]
    · cases A <;> simp [Builtin.append_, run_underlying ht, sizeOf, typeInfo, hi, Builtin.lenOf, Builtin.firstCells, loadCells, loadCellsFrom, hnc, storeCells]
  obtain ⟨a, rfl, hnw⟩ := hnews (by omega)
  have grown : ∀ (old : Nat), old < n + m →
      (w.drew.alloc (.cells (xs.toArray ++ news.toArray ++ Builtin.zeroCells z.cells (grownCap w (n + m) old e - (n + m))) e)).ownsRow base e i.size
        (.slice (some ⟨w.heap.size, 0, none⟩) (n + m) (grownCap w (n + m) old e)) (n + m) (xs ++ news) ∧
      w.grownBy (w.drew.alloc (.cells (xs.toArray ++ news.toArray ++ Builtin.zeroCells z.cells (grownCap w (n + m) old e - (n + m))) e)) none := by
    intro old ho
    have hge := grownCap_ge w (n + m) old e
    have hcm : grownCap w (n + m) old e ≤ maxLen := grownCap_le_maxLen w (n + m) old e h63
    refine ⟨⟨hlen, .inr ⟨w.heap.size, _, _, rfl, hbase, Go.heap_alloc_new w.drew _, hge, hcm, ?_, ?_⟩⟩, ⟨rfl, rfl, rfl, by simp, fun k hk _ => Go.heap_alloc_old w.drew _ hk⟩⟩
    · simp only [Array.size_append, List.size_toArray, size_zeroCells, hzs, hown.1, hl, ← Nat.add_mul]
      congr 1
      omega
    · simp only [Array.toList_append, List.append_assoc]
      rw [← List.append_assoc, ← hlen]
      exact List.take_left
  rcases hown.2 with ⟨rfl, rfl⟩ | ⟨g, cap, cur, rfl, hbg, hg, hnc, hcm, hcs, htake⟩
  · have hx : xs = [] := List.eq_nil_of_length_eq_zero (by simpa using hown.1)
    subst hx
    have hr := run_append_nil (P := P) w t ty e i z ht hi hz a m c news hl hnw (by omega) (by omega) (by have hb := hbytes; simp only [Nat.zero_add] at hb; omega)
    have hgr := grown 0 (by omega)
    simp only [Nat.zero_add, List.nil_append, Array.empty_append] at hgr ⊢
    exact ⟨_, _, hr, hgr.1, .inr ⟨rfl, hgr.2⟩, Nat.le_succ _⟩
  · by_cases hroom : n + m ≤ cap
    · have hfit : n * i.size + news.length ≤ cur.size := by rw [hl, hcs, ← Nat.add_mul]; exact Nat.mul_le_mul_right _ hroom
      have hr := run_append_room (P := P) w t ty e i ht hi g n cap cur hg a m c news hl hnw h1 hroom hfit
      refine ⟨_, _, hr, ⟨hlen, .inr ⟨g, cap, _, rfl, hbg, setRow_heap w g cur _ e _ hg, hroom, hcm, ?_, ?_⟩⟩, .inl ⟨rfl, ⟨rfl, rfl, rfl, by simp, fun k _ hk => setRow_other w g k _ (fun e => hk (by simp [Value.ownBlock, e]))⟩⟩, Nat.le_refl _⟩
      · simp only [List.size_toArray, List.length_append, List.length_take, List.length_drop, Array.length_toList]
        omega
      · rw [htake, ← hlen]
        exact List.take_left
    · have holds : ∀ (j : Nat) u, xs[j]? = some u → w.cell? ((⟨g, 0, none⟩ : Addr).add j) = some u := hown.cells (g := g) rfl
      have hr := run_append_grow (P := P) w t ty e i z ht hi hz ⟨g, 0, none⟩ n cap xs hown.1 holds a m c news hl hnw (by omega) (by omega) (growslice_fits (by omega) hbytes)
      have hgr := grown cap (by omega)
      exact ⟨_, _, hr, hgr.1, .inr ⟨rfl, hgr.2⟩, Nat.le_succ _⟩
end

section
variable {G : Stb} {base : Nat} {M : Nat → Prop} {w0 w : World} {hp : List HObj} {bl : Nat → Option Nat} {rv : Nat → Value}

theorem addr_add (b o j : Nat) : (⟨b, o, none⟩ : Addr).add j = ⟨b, o + j, none⟩ := by unfold Addr.add; split <;> simp_all

def rvSet (rv : Nat → Value) (r : Nat) (v : Value) : Nat → Value := fun i => if i = r then v else rv i

theorem ownsRow_cell {w : World} {base : Nat} {e : TypeId} {size : Nat} {v : Value} {n : Nat} {xs : List Value} (h : w.ownsRow base e size v n xs) {b o : Nat} {u : Value} (hb : v.ownBlock = some b) (hu : xs[o]? = some u) :
    w.cell? ⟨b, o, none⟩ = some u := by
  have := h.cells hb o u hu
  rwa [addr_add, Nat.zero_add] at this

theorem ownsRow_cell_eq {w : World} {base : Nat} {e : TypeId} {size : Nat} {v : Value} {n : Nat} {xs : List Value} (h : w.ownsRow base e size v n xs) {b o : Nat} {u : Value} (hb : v.ownBlock = some b) (ho : o < n * size)
    (hc : w.cell? ⟨b, o, none⟩ = some u) : xs[o]? = some u := by
  have hl : o < xs.length := by rw [h.1]; exact ho
  have := ownsRow_cell h hb (List.getElem?_eq_getElem hl)
  rw [hc] at this
  rw [List.getElem?_eq_getElem hl]
  exact this.symm

/-- An append onto row r. -/
theorem RelH.append (h : RelH G base M w0 hp bl rv w) {r e0 k0 ver e k : Nat} {es new : List (List PV)} {xs news : List Value} {v' : Value} {w' : World}
    (hr : hp[r]? = some (.row e0 k0 ver es)) (hek : (e0 = e ∧ k0 = k) ∨ k0 = 0) (hraw : e < raw0) (hk0 : 0 < k)
    (hown : w.ownsRow base e k (rv r) es.length xs) (hxs : ∀ x ∈ xs, x.oneCell' = true) (hes : ∀ el ∈ es, el.length = k)
    (hrep : ∀ (i j : Nat) el x, es[i]? = some el → el[j]? = some x → ∃ u, xs[i * k + j]? = some u ∧ RepP (stb G hp bl rv) w u x)
    (hnew : ∀ x ∈ news, x.oneCell' = true) (hnl : ∀ el ∈ new, el.length = k) (hnn : news.length = new.length * k)
    (hnrep : ∀ (i j : Nat) el x, new[i]? = some el → el[j]? = some x → ∃ u, news[i * k + j]? = some u ∧ RepP (stb G hp bl rv) w u x)
    (hown' : w'.ownsRow base e k v' (es.length + new.length) (xs ++ news))
    (hdr : w.drawn ≤ w'.drawn) (hat : (v'.ownBlock = (rv r).ownBlock ∧ w.grownBy w' (rv r).ownBlock) ∨ (v'.ownBlock = some w.heap.size ∧ w.grownBy w' none)) :
    RelH G base M w0 (hp.set r (.row e k (ver + 1) (es ++ new))) bl (rvSet rv r v') w' ∧
      (cx G hp bl rv w).le (cx G (hp.set r (.row e k (ver + 1) (es ++ new))) bl (rvSet rv r v') w') := by
  have hrl : r < hp.length := (List.getElem?_eq_some_iff.1 hr).1
  have hgb : w.grownBy w' (rv r).ownBlock := by
    rcases hat with ⟨_, hg⟩ | ⟨_, hg⟩
    · exact hg
    · exact ⟨hg.os, hg.tape, hg.output, hg.size, fun k hk _ => hg.block k hk (by simp)⟩
  have get : ∀ {j : Nat} {e1 k1 v1 es1}, (hp.set r (.row e k (ver + 1) (es ++ new)))[j]? = some (.row e1 k1 v1 es1) →
      (j ≠ r ∧ hp[j]? = some (.row e1 k1 v1 es1)) ∨ (j = r ∧ e1 = e ∧ k1 = k ∧ v1 = ver + 1 ∧ es1 = es ++ new) := by
    intro j e1 k1 v1 es1 hj
    by_cases hjr : r = j
    · subst hjr
      simp [hrl] at hj
      obtain ⟨rfl, rfl, rfl, rfl⟩ := hj
      exact .inr ⟨rfl, rfl, rfl, rfl, rfl⟩
    · rw [List.getElem?_set_ne hjr] at hj
      exact .inl ⟨fun e => hjr e.symm, hj⟩
  have getb : ∀ {j : Nat} {cs}, (hp.set r (.row e k (ver + 1) (es ++ new)))[j]? = some (.box cs) → hp[j]? = some (.box cs) := by
    intro j cs hj
    by_cases hjr : r = j
    · subst hjr; simp [hrl] at hj
    · rwa [List.getElem?_set_ne hjr] at hj
  have hkk : es.length * k0 ≤ es.length * k := by
    rcases hek with ⟨_, rfl⟩ | rfl
    · exact Nat.le_refl _
    · simp
  have hle : (cx G hp bl rv w).le (cx G (hp.set r (.row e k (ver + 1) (es ++ new))) bl (rvSet rv r v') w') := by
    refine ⟨fun b o u s c => ?_, fun i B hB => hB, fun r' ver' val hr' => ?_⟩
    · change w.cell? ⟨b, o, none⟩ = some u at c
      have hb := cell_lt c
      refine ⟨⟨s.1, s.2.1, fun j e1 k1 v1 es1 hj ho => ?_⟩, ?_⟩
      · rcases get hj with ⟨hne, hj'⟩ | ⟨rfl, rfl, rfl, rfl, rfl⟩
        · simp only [rvSet, hne, if_false] at ho
          exact s.2.2 j e1 k1 v1 es1 hj' ho
        · simp only [rvSet, if_true] at ho
          rcases hat with ⟨hv, _⟩ | ⟨hv, _⟩
          · rw [hv] at ho
            have := (s.2.2 j _ _ _ _ hr ho).2
            refine ⟨hraw, ?_⟩
            rw [List.length_append, Nat.add_mul]
            omega
          · exfalso
            rw [hv] at ho
            simp at ho; omega
      · by_cases hbr : (rv r).ownBlock = some b
        · rcases hat with ⟨hv, _⟩ | ⟨_, hg⟩
          · have ho : o < es.length * k := Nat.lt_of_lt_of_le (s.2.2 r _ _ _ _ hr hbr).2 hkk
            have hx := ownsRow_cell_eq hown hbr ho c
            refine ownsRow_cell hown' (by rw [hv]; exact hbr) ?_
            rw [List.getElem?_append_left (by rw [hown.1]; exact ho)]
            exact hx
          · exact (World.cell?_of_block (a := ⟨b, o, none⟩) (hg.block b hb (by simp))).trans c
        · exact (World.cell?_of_block (a := ⟨b, o, none⟩) (hgb.block b hb (fun e => hbr e.symm))).trans c
    · obtain ⟨hval, e1, k1, es1, hr1⟩ := rwOf_some hr'
      by_cases hrr : r' = r
      · subst hrr
        rw [hr] at hr1
        simp at hr1
        obtain ⟨_, _, rfl, _⟩ := hr1
        refine ⟨ver + 1, v', ?_, by omega, fun e => by omega⟩
        simp only [cx]
        rw [rwOf_row (e := e) (k := k) (ver := ver + 1) (es := es ++ new) (by simp [hrl])]
        simp [rvSet]
      · refine ⟨ver', val, ?_, Nat.le_refl _, fun _ => rfl⟩
        simp only [cx]
        rw [rwOf_row (e := e1) (k := k1) (ver := ver') (es := es1) (by rw [List.getElem?_set_ne (fun e => hrr e.symm)]; exact hr1)]
        simp [rvSet, hrr, hval]
  have hrowlt : ∀ b, (rv r).ownBlock = some b → b < w.heap.size ∧ base ≤ b := fun b hb => (h.row r _ _ _ _ hr).lt hb
  have hfr : Fr base M w w' := ⟨hgb.os, hgb.tape, hgb.output, hgb.size, fun k hk _ => hgb.block k (Nat.lt_of_lt_of_le hk h.hb) (fun e => by have := (hrowlt k e.symm).2; omega), hdr⟩
  have hvlt : ∀ b, v'.ownBlock = some b → (rv r).ownBlock = some b ∨ b = w.heap.size := by
    intro b hb
    rcases hat with ⟨hv, _⟩ | ⟨hv, _⟩
    · exact .inl (hv ▸ hb)
    · rw [hv] at hb; simp at hb; exact .inr hb.symm
  refine ⟨⟨h.fr.trans hfr, h.hG, Nat.le_trans h.hb hgb.size, ?_, ?_, ?_, h.inj, ?_, ?_, fun i cs hi => h.ng i cs (getb hi)⟩, hle⟩
  · intro i cs hi
    obtain ⟨B, arr, e1, h1, h2, h3, h4, h5⟩ := h.box i cs (getb hi)
    refine ⟨B, arr, e1, h1, ?_, h3, fun j v c hv hc => ⟨(h4 j v c hv hc).1, (h4 j v c hv hc).2.le hle⟩, h5⟩
    exact (hgb.block B (h.bl_lt h1).1 (fun e => h.brow r i _ _ _ _ B hr e.symm h1)).trans h2
  · intro i e1 k1 v1 es1 hi
    rcases get hi with ⟨hne, hi'⟩ | ⟨rfl, rfl, rfl, rfl, rfl⟩
    · simp only [rvSet, hne, if_false]
      rcases h.row i e1 k1 v1 es1 hi' with h0 | ⟨hk, xs1, ho, h1, h2, h3⟩
      · exact .inl h0
      · refine .inr ⟨hk, xs1, ho.kept hgb ?_, h1, h2, fun a b el x he hx => by
          obtain ⟨u, hu, hrep⟩ := h3 a b el x he hx
          exact ⟨u, hu, RepP.le (C := cx G hp bl rv w) hle hrep⟩⟩
        cases hb : (rv i).ownBlock with
        | none => exact .inl rfl
        | some b =>
          refine .inr (fun e => hne ?_)
          exact h.rinj i r _ _ _ _ _ _ _ _ b hi' hr hb e.symm
    · simp only [rvSet, if_true]
      refine .inr ⟨hk0, xs ++ news, by rw [List.length_append, ety_small hraw]; exact hown', ?_, ?_, ?_⟩
      · intro x hx
        rcases List.mem_append.1 hx with hx | hx
        · exact hxs x hx
        · exact hnew x hx
      · intro el hel
        rcases List.mem_append.1 hel with hx | hx
        · exact hes el hx
        · exact hnl el hx
      · intro a b el x he hx
        rcases Nat.lt_or_ge a es.length with hlt | hge
        · rw [List.getElem?_append_left hlt] at he
          obtain ⟨u, hu, hrep⟩ := hrep a b el x he hx
          have hul : a * k1 + b < xs.length := (List.getElem?_eq_some_iff.1 hu).1
          exact ⟨u, by rw [List.getElem?_append_left hul]; exact hu, RepP.le (C := cx G hp bl rv w) hle hrep⟩
        · rw [List.getElem?_append_right hge] at he
          obtain ⟨u, hu, hrep⟩ := hnrep _ b el x he hx
          refine ⟨u, ?_, RepP.le (C := cx G hp bl rv w) hle hrep⟩
          have hmul : a * k1 = es.length * k1 + (a - es.length) * k1 := by rw [← Nat.add_mul]; congr 1; omega
          rw [List.getElem?_append_right (by rw [hown.1, hmul]; omega), hown.1]
          rw [show a * k1 + b - es.length * k1 = (a - es.length) * k1 + b from by omega]
          exact hu
  · intro i B hB
    obtain ⟨cs, hcs⟩ := h.only i B hB
    refine ⟨cs, ?_⟩
    have hir : r ≠ i := fun e => by subst e; rw [hr] at hcs; cases hcs
    rw [List.getElem?_set_ne hir]
    exact hcs
  · intro i j e1 k1 v1 es1 e2 k2 v2 es2 b h1 h2 hb1 hb2
    rcases get h1 with ⟨n1, h1'⟩ | ⟨r1, _⟩ <;> rcases get h2 with ⟨n2, h2'⟩ | ⟨r2, _⟩
    · simp only [rvSet, n1, n2, if_false] at hb1 hb2
      exact h.rinj i j _ _ _ _ _ _ _ _ b h1' h2' hb1 hb2
    · subst r2
      simp only [rvSet, n1, if_false, if_true] at hb1 hb2
      rcases hvlt b hb2 with hb | hb
      · exact h.rinj i j _ _ _ _ _ _ _ _ b h1' hr hb1 hb
      · have := ((h.row i _ _ _ _ h1').lt hb1).1; omega
    · subst r1
      simp only [rvSet, n2, if_false, if_true] at hb1 hb2
      rcases hvlt b hb1 with hb | hb
      · exact h.rinj i j _ _ _ _ _ _ _ _ b hr h2' hb hb2
      · have := ((h.row j _ _ _ _ h2').lt hb2).1; omega
    · omega
  · intro i j e1 k1 v1 es1 B h1 hb1
    rcases get h1 with ⟨n1, h1'⟩ | ⟨r1, _⟩
    · simp only [rvSet, n1, if_false] at hb1
      exact h.brow i j _ _ _ _ B h1' hb1
    · subst r1
      simp only [rvSet, if_true] at hb1
      rcases hvlt B hb1 with hb | hb
      · exact h.brow i j _ _ _ _ B hr hb
      · intro hj
        have := (h.bl_lt hj).1
        omega

/-- What lies at the end may be forgotten. -/
def blCut (bl : Nat → Option Nat) (n : Nat) : Nat → Option Nat := fun i => if i < n then bl i else none

mutual
def AV.cut (n : Nat) : AV → AV
  | .p x => .p x
  | .own r u => if r < n then .own r u else .dead
  | .agg cs => .agg (cutL n cs)
  | .ptr b o => if b < n then .ptr b o else .dead
  | .bsl b k lo hi => if b < n then .bsl b k lo hi else .dead
  | .elt cs => .elt cs
  | .fn f cs => .fn f (cutL n cs)
  | .tup vs => .tup (cutL n vs)
  | .grd c x => .grd c (x.cut n)
  | .dead => .dead
def cutL (n : Nat) : List AV → List AV
  | [] => []
  | x :: xs => x.cut n :: cutL n xs
end

theorem cutL_eq (n : Nat) (l : List AV) : cutL n l = l.map (AV.cut n) := by
  induction l with
  | nil => rfl
  | cons x xs ih => simp [cutL, ih]

def HObj.cut (n : Nat) : HObj → HObj
  | .box cs => .box (cutL n cs)
  | .row e k v es => .row e k v es

def cutH (n : Nat) (hp : List HObj) : List HObj := (hp.take n).map (HObj.cut n)

theorem cutH_row {n i e k v : Nat} {es : List (List PV)} (h : (cutH n hp)[i]? = some (.row e k v es)) : i < n ∧ hp[i]? = some (.row e k v es) := by
  unfold cutH at h
  rw [List.getElem?_map, List.getElem?_take] at h
  split at h
  · rename_i hlt
    refine ⟨hlt, ?_⟩
    cases hh : hp[i]? with
    | none => rw [hh] at h; simp at h
    | some o =>
      rw [hh] at h
      cases o with
      | box cs => simp [HObj.cut] at h
      | row e' k' v' es' => simpa [HObj.cut] using h
  · simp at h

theorem cutH_box {n i : Nat} {cs : List AV} (h : (cutH n hp)[i]? = some (.box cs)) : i < n ∧ ∃ cs0, hp[i]? = some (.box cs0) ∧ cs = cutL n cs0 := by
  unfold cutH at h
  rw [List.getElem?_map, List.getElem?_take] at h
  split at h
  · rename_i hlt
    refine ⟨hlt, ?_⟩
    cases hh : hp[i]? with
    | none => rw [hh] at h; simp at h
    | some o =>
      rw [hh] at h
      cases o with
      | box cs0 => exact ⟨cs0, rfl, by simpa [HObj.cut] using h.symm⟩
      | row e' k' v' es' => simp [HObj.cut] at h
  · simp at h

theorem cutH_get_row {n i e k v : Nat} {es : List (List PV)} (h : hp[i]? = some (.row e k v es)) (hi : i < n) : (cutH n hp)[i]? = some (.row e k v es) := by
  unfold cutH
  rw [List.getElem?_map, List.getElem?_take, if_pos hi, h]
  rfl
theorem cutH_get_box {n i : Nat} {cs : List AV} (h : hp[i]? = some (.box cs)) (hi : i < n) : (cutH n hp)[i]? = some (.box (cutL n cs)) := by
  unfold cutH
  rw [List.getElem?_map, List.getElem?_take, if_pos hi, h]
  rfl

theorem stb_cut {n b o : Nat} (s : stb G hp bl rv b o) : stb G (cutH n hp) (blCut bl n) rv b o := by
  refine ⟨s.1, fun i hi => ?_, fun i e k ver es hr ho => s.2.2 i e k ver es (cutH_row hr).2 ho⟩
  simp only [blCut] at hi
  split at hi
  · exact s.2.1 i hi
  · cases hi

theorem RepP.cut {n : Nat} {v : Value} {x : PV} (h : RepP (stb G hp bl rv) w v x) : RepP (stb G (cutH n hp) (blCut bl n) rv) w v x :=
  h.mono fun _ _ _ s c => ⟨stb_cut s, c⟩

theorem RepA.cut {n : Nat} {v : Value} {x : AV} (h : RepA (cx G hp bl rv w) v x) : RepA (cx G (cutH n hp) (blCut bl n) rv w) v (x.cut n) := by
  induction h with
  | p h => simpa [AV.cut] using RepA.p (C := cx G (cutH n hp) (blCut bl n) rv w) h.cut
  | @own v r u ver val h hu hv h1 =>
    simp only [AV.cut]
    split
    · rename_i hlt
      obtain ⟨hval, e, k, es, hr⟩ := rwOf_some h
      exact .own (ver := ver) (val := val) (by simp only [cx]; rw [rwOf_row (cutH_get_row hr hlt), hval]) hu hv h1
    · exact .dead
  | agg hl h1 _ ih =>
    simp only [AV.cut, cutL_eq]
    refine .agg (by simpa using hl) h1 (fun i v c hv hc => ?_)
    rw [List.getElem?_map] at hc
    obtain ⟨c0, hc0, rfl⟩ := Option.map_eq_some_iff.1 hc
    exact ih i v c0 hv hc0
  | @ptr b B off h =>
    simp only [AV.cut]
    split
    · rename_i hlt
      exact .ptr (by simp only [cx, blCut]; rw [if_pos hlt]; exact h)
    · exact .dead
  | @bsl b B k lo hi c m A h hn hc hm hB hA =>
    simp only [AV.cut]
    split
    · rename_i hlt
      exact .bsl (by simp only [cx, blCut]; rw [if_pos hlt]; exact h) hn hc hm hB hA
    · exact .dead
  | elt b off g hcell hrep =>
    simp only [AV.cut]
    exact .elt b off g (fun j x hx => ⟨(hcell j x hx).1, stb_cut (hcell j x hx).2.1, (hcell j x hx).2.2⟩) (fun j x hx => RepP.cut (hrep j x hx))
  | fn hl _ ih =>
    simp only [AV.cut, cutL_eq]
    refine .fn (by simpa using hl) (fun i v c hv hc => ?_)
    rw [List.getElem?_map] at hc
    obtain ⟨c0, hc0, rfl⟩ := Option.map_eq_some_iff.1 hc
    exact ih i v c0 hv hc0
  | tup hl _ ih =>
    simp only [AV.cut, cutL_eq]
    refine .tup (by simpa using hl) (fun i v c hv hc => ?_)
    rw [List.getElem?_map] at hc
    obtain ⟨c0, hc0, rfl⟩ := Option.map_eq_some_iff.1 hc
    exact ih i v c0 hv hc0
  | grd _ hf ih => simp only [AV.cut]; exact .grd ih hf
  | dead => simp only [AV.cut]; exact .dead

theorem ng_cut (n : Nat) : ∀ x : AV, x.ng = true → (x.cut n).ng = true := by
  intro x
  induction x using AV.rec (motive_2 := fun l => ngL l = true → ngL (cutL n l) = true) with
  | p x => intro; rfl
  | own r u => intro; simp only [AV.cut]; split <;> rfl
  | agg cs ih => intro h; simpa [AV.cut, AV.ng] using ih (by simpa [AV.ng] using h)
  | ptr b o => intro; simp only [AV.cut]; split <;> rfl
  | bsl b k lo hi => intro; simp only [AV.cut]; split <;> rfl
  | elt cs => intro; rfl
  | fn f cs ih => intro h; simpa [AV.cut, AV.ng] using ih (by simpa [AV.ng] using h)
  | tup vs ih => intro h; simpa [AV.cut, AV.ng] using ih (by simpa [AV.ng] using h)
  | grd c x ih => intro h; simp [AV.ng] at h
  | dead => intro; rfl
  | nil => rfl
  | cons x xs ih1 ih2 =>
    rename_i h
    simp only [ngL, Bool.and_eq_true] at h
    simp only [cutL, ngL, Bool.and_eq_true]
    exact ⟨ih1 h.1, ih2 h.2⟩

theorem RelH.cut (h : RelH G base M w0 hp bl rv w) (n : Nat) : RelH G base M w0 (cutH n hp) (blCut bl n) rv w := by
  refine ⟨h.fr, h.hG, h.hb, ?_, ?_, ?_, ?_, ?_, ?_, fun i cs hi => by
    obtain ⟨_, cs0, hi', rfl⟩ := cutH_box hi
    intro c hc
    rw [cutL_eq] at hc
    obtain ⟨c0, hc0, rfl⟩ := List.mem_map.1 hc
    exact ng_cut n c0 (h.ng i cs0 hi' c0 hc0)⟩
  · intro i cs hi
    obtain ⟨hlt, cs0, hi', rfl⟩ := cutH_box hi
    obtain ⟨B, arr, e, h1, h2, h3, h4, h5⟩ := h.box i cs0 hi'
    refine ⟨B, arr, e, by simp only [blCut]; rw [if_pos hlt]; exact h1, h2, by rw [cutL_eq, List.length_map]; exact h3, fun j v c hv hc => ?_, h5⟩
    rw [cutL_eq, List.getElem?_map] at hc
    obtain ⟨c0, hc0, rfl⟩ := Option.map_eq_some_iff.1 hc
    exact ⟨(h4 j v c0 hv hc0).1, (h4 j v c0 hv hc0).2.cut⟩
  · intro i e k ver es hr
    rcases h.row i e k ver es (cutH_row hr).2 with h0 | ⟨hk, xs, ho, h1, h2, h3⟩
    · exact .inl h0
    · exact .inr ⟨hk, xs, ho, h1, h2, fun a b el x he hx => by
        obtain ⟨u, hu, hrep⟩ := h3 a b el x he hx
        exact ⟨u, hu, hrep.cut⟩⟩
  · intro i B hB
    simp only [blCut] at hB
    split at hB
    · rename_i hlt
      obtain ⟨cs, hcs⟩ := h.only i B hB
      exact ⟨_, cutH_get_box hcs hlt⟩
    · cases hB
  · intro i j B hi hj
    simp only [blCut] at hi hj
    split at hi
    · split at hj
      · exact h.inj i j B hi hj
      · cases hj
    · cases hi
  · intro i j e k v es e' k' v' es' b h1 h2
    exact h.rinj i j _ _ _ _ _ _ _ _ b (cutH_row h1).2 (cutH_row h2).2
  · intro i j e k v es B hr ho
    have := h.brow i j e k v es B (cutH_row hr).2 ho
    simp only [blCut]
    split
    · exact this
    · simp

end
end Go.Proofs.Av
