/- Aggregates and slices that are built; loads; cuts of slices. -/
import Derived.Test.YtedaankgfolbjaaAv8
set_option linter.unusedVariables false
set_option linter.unusedSimpArgs false
namespace Go.Proofs.Av
open Go.RowKit

section
variable {α β : Type} {R : α → β → Prop}
theorem Reps.nil : Reps R [] [] := ⟨rfl, fun i v x hv _ => by simp at hv⟩
theorem Reps.app {vs us : List α} {xs ys : List β} (h : Reps R vs xs) (k : Reps R us ys) : Reps R (vs ++ us) (xs ++ ys) := by
  refine ⟨by simp [h.1, k.1], fun i v x hv hx => ?_⟩
  rcases Nat.lt_or_ge i vs.length with hlt | hge
  · rw [List.getElem?_append_left hlt] at hv
    rw [List.getElem?_append_left (by rw [← h.1]; exact hlt)] at hx
    exact h.2 i v x hv hx
  · rw [List.getElem?_append_right hge] at hv
    rw [List.getElem?_append_right (by rw [← h.1]; exact hge), ← h.1] at hx
    exact k.2 _ v x hv hx
theorem Reps.take {vs : List α} {xs : List β} (h : Reps R vs xs) (n : Nat) : Reps R (vs.take n) (xs.take n) := by
  refine ⟨by simp [h.1], fun i v x hv hx => ?_⟩
  rw [List.getElem?_take] at hv hx
  split at hv
  · rename_i hlt
    rw [if_pos hlt] at hx
    exact h.2 i v x hv hx
  · cases hv
theorem Reps.drop {vs : List α} {xs : List β} (h : Reps R vs xs) (n : Nat) : Reps R (vs.drop n) (xs.drop n) := by
  refine ⟨by simp [h.1], fun i v x hv hx => ?_⟩
  rw [List.getElem?_drop] at hv hx
  exact h.2 _ v x hv hx
theorem Reps.cons {v : α} {vs : List α} {x : β} {xs : List β} (h0 : R v x) (h : Reps R vs xs) : Reps R (v :: vs) (x :: xs) := by
  refine ⟨by simp [h.1], fun i v' x' hv hx => ?_⟩
  rcases i with _ | i
  · simp at hv hx; subst hv; subst hx; exact h0
  · exact h.2 i v' x' (by simpa using hv) (by simpa using hx)
theorem Reps.tail {v : α} {vs : List α} {x : β} {xs : List β} (h : Reps R (v :: vs) (x :: xs)) : Reps R vs xs :=
  ⟨by simpa using h.1, fun i v' x' hv hx => h.2 (i + 1) v' x' (by simpa using hv) (by simpa using hx)⟩
theorem Reps.imp {R' : α → β → Prop} {vs : List α} {xs : List β} (h : Reps R vs xs) (k : ∀ v x, v ∈ vs → R v x → R' v x) : Reps R' vs xs :=
  ⟨h.1, fun i v x hv hx => k v x (List.mem_of_getElem? hv) (h.2 i v x hv hx)⟩
end

theorem splice_eq {α : Type} (cs : List α) (off : Nat) (xs : List α) (h : off + xs.length ≤ cs.length) : splice cs off xs = cs.take off ++ xs ++ cs.drop (off + xs.length) := by
  unfold splice
  split
  · rw [List.set_eq_take_append_cons_drop]
    rw [if_pos (by simp at h; omega)]
    simp
  · rfl

theorem foldl_setAB (off : Nat) : ∀ (us : List Value) (k : Nat) (arr : Array Value) (A B : List Value), arr.toList = A ++ B → A.length = off + k → us.length ≤ B.length →
    ((us.zipIdx k).foldl (fun cs (x : Value × Nat) => cs.setIfInBounds (off + x.2) x.1) arr).toList = A ++ us ++ B.drop us.length
  | [], k, arr, A, B, h, _, _ => by simp [h]
  | u :: us, k, arr, A, [], h, _, hl => by simp at hl
  | u :: us, k, arr, A, b :: B, h, ha, hl => by
    simp only [List.zipIdx_cons, List.foldl_cons]
    rw [foldl_setAB off us (k + 1) (arr.setIfInBounds (off + k) u) (A ++ [u]) B (by
      rw [Array.toList_setIfInBounds, h, ← ha]
      simp) (by simp; omega) (by simpa using hl)]
    simp

theorem foldl_set (off : Nat) (us : List Value) (arr : Array Value) (h : off + us.length ≤ arr.size) :
    ((us.zipIdx 0).foldl (fun cs (x : Value × Nat) => cs.setIfInBounds (off + x.2) x.1) arr).toList = arr.toList.take off ++ us ++ arr.toList.drop (off + us.length) := by
  rw [foldl_setAB off us 0 arr (arr.toList.take off) (arr.toList.drop off) (by simp) (by simp; omega) (by simp; omega)]
  simp

section
variable {P : Program} {E : Env} {C : Cx}

theorem fill_run (pl plA : Nat → Option (Nat × Nat)) (hpl : ∀ ix q, plA ix = some q → pl ix = some q) : ∀ (parts : List (Nat × AV)) (vparts : List (Nat × Value)) (arr : Array Value) (cells cells' : List AV),
    Reps (fun (p : Nat × Value) (q : Nat × AV) => p.1 = q.1 ∧ RepA C p.2 q.2) vparts parts → Reps (RepA C) arr.toList cells → (∀ v ∈ arr.toList, v.oneCell' = true) → fillA plA cells parts = some cells' →
    ∃ arr', Instr.fill pl arr vparts = some arr' ∧ Reps (RepA C) arr'.toList cells' ∧ (∀ v ∈ arr'.toList, v.oneCell' = true)
  | [], vparts, arr, cells, cells', hp, hr, h1, hf => by
    have : vparts = [] := List.eq_nil_of_length_eq_zero (by simpa using hp.1)
    subst this
    simp [fillA] at hf
    subst hf
    exact ⟨arr, rfl, hr, h1⟩
  | (ix, av) :: parts, [], arr, cells, cells', hp, hr, h1, hf => by have := hp.1; simp at this
  | (ix, av) :: parts, (ix', v) :: vparts, arr, cells, cells', hp, hr, h1, hf => by
    obtain ⟨e0, hrep⟩ := hp.2 0 (ix', v) (ix, av) rfl rfl
    simp only at e0 hrep
    subst e0
    simp only [fillA] at hf
    split at hf
    · rename_i off size hpx
      split at hf
      · rename_i hc
        obtain ⟨hk, hsz, hfit⟩ := hc
        obtain ⟨hcr, hc1⟩ := hrep.cells hk
        have hvs : v.cells.size = size := by have := hcr.1; simp at this; omega
        have hal : arr.size = cells.length := by have := hr.1; simpa using this
        have hfold : (v.cells.zipIdx.foldl (fun cs (x : Value × Nat) => cs.setIfInBounds (off + x.2) x.1) arr).toList = arr.toList.take off ++ v.cells.toList ++ arr.toList.drop (off + size) := by
          rw [← Array.foldl_toList, Array.toList_zipIdx]
          have := foldl_set off v.cells.toList arr (by simp; omega)
          simpa [hvs] using this
        have hsp : splice cells off av.cells = cells.take off ++ av.cells ++ cells.drop (off + size) := by rw [splice_eq _ _ _ (by omega), hsz]
        obtain ⟨arr', h2, h3, h4⟩ := fill_run pl plA hpl parts vparts (v.cells.zipIdx.foldl (fun cs (x : Value × Nat) => cs.setIfInBounds (off + x.2) x.1) arr) _ cells' hp.tail
          (by rw [hfold, hsp]; exact ((hr.take off).app hcr).app (hr.drop _)) (by
            rw [hfold]
            intro u hu
            simp only [List.mem_append] at hu
            rcases hu with (hu | hu) | hu
            · exact h1 u (List.mem_of_mem_take hu)
            · exact hc1 u hu
            · exact h1 u (List.mem_of_mem_drop hu)) hf
        refine ⟨arr', ?_, h3, h4⟩
        simp only [Instr.fill, hpl _ _ hpx]
        rw [if_neg (by simp [hvs]; omega)]
        exact h2
      · cases hf
    · cases hf

theorem zeroPV_rep : ∀ (zs : List Value), (∀ z ∈ zs, z.oneCell' = true) → Reps (RepA C) zs (zeroPV zs)
  | [], _ => Reps.nil
  | v :: vs, h => by
    have ih := zeroPV_rep vs (fun z hz => h z (by simp [hz]))
    by_cases hs : v = .slice none 0 0
    · subst hs
      exact .cons (.p (.sl 0 0 (fun _ _ => undef) rfl (Nat.le_refl _) (by simp [maxLen]) (fun h => absurd h (Nat.lt_irrefl 0)) (by simp) (by simp) (by simp))) ih
    · have : zeroPV (v :: vs) = .p (.sc v) :: zeroPV vs := by
        rw [zeroPV]
        exact hs
      rw [this]
      exact .cons (.p (.sc (h _ (by simp)))) ih

theorem mapM_get {α β : Type} (f : α → Option β) : ∀ (l : List α) (ys : List β), l.mapM f = some ys → ∀ (i : Nat) x, l[i]? = some x → ∃ y, f x = some y ∧ ys[i]? = some y
  | [], ys, h, i, x, hx => by simp at hx
  | a :: l, ys, h, i, x, hx => by
    simp only [List.mapM_cons, Option.bind_eq_bind, Option.pure_def] at h
    cases hf : f a with
    | none => rw [hf] at h; simp at h
    | some b =>
      rw [hf] at h
      simp only [Option.bind_some] at h
      cases hl : l.mapM f with
      | none => rw [hl] at h; simp at h
      | some bs =>
        rw [hl] at h
        simp at h
        subst h
        rcases i with _ | i
        · simp at hx; subst hx; exact ⟨b, hf, rfl⟩
        · have := mapM_get f l bs hl i x (by simpa using hx)
          simpa using this

end

section
variable {P : Program} {E : Env} {G : Stb} {base : Nat} {M : Nat → Prop} {w0 w : World} {hp : List HObj} {bl : Nat → Option Nat} {rv : Nat → Value}
variable {o : Oper} {a : Act} {r : Res}

theorem Post.below (h : RelH G base M w0 hp bl rv w) {r : Res} (hw : r.wr = []) (hn : r.nw = []) {v : Value} {w' : World} (hb : Bel w.heap.size w w') (hv : RepA (cx G hp bl rv w') v r.v) : Post G base M w0 hp bl rv w r v w' := by
  have : r.app hp = hp := by simp [Res.app, hw, hn, setMany]
  unfold Post
  rw [this]
  obtain ⟨h1, h2⟩ := h.below hb
  exact ⟨bl, rv, h1, h2, hv⟩

theorem does_build (hE : EnvOk P E) (h : RelH G base M w0 hp bl rv w) {t : TypeId} {parts : Array (Nat × Operand)} {ps : List (Nat × AV)} (ho : o.op = .build t parts)
    (hx : Reps (fun (p : Nat × Value) (q : Nat × AV) => p.1 = q.1 ∧ RepA (cx G hp bl rv w) p.2 q.2) (parts.toList.map fun q => (q.1, a.eval q.2)) ps)
    (hr : aBuild E t ps = some r) : Does P o a w (Post G base M w0 hp bl rv w r) := by
  unfold aBuild at hr
  split at hr
  · rename_i i hi
    split at hr
    · rename_i hag
      obtain ⟨cs, hcs, rfl⟩ := Option.map_eq_some_iff.1 hr
      have hT := hE.ty _ _ hi
      obtain ⟨z, hz, hzc⟩ := hT.zeroV w
      have hparts := hT.parts
      obtain ⟨d, hd, hsh⟩ := hT.und
      obtain ⟨sh, size, bytes, zero⟩ := i
      simp only [TyI.agg] at hag
      have hzr : Reps (RepA (cx G hp bl rv w)) z.cells.toList (zeroPV zero) := by rw [hzc]; exact zeroPV_rep zero hT.zone
      have hz1 : ∀ v ∈ z.cells.toList, v.oneCell' = true := by rw [hzc]; exact hT.zone
      cases sh with
      | struct fs =>
        cases d <;> simp [ShOk] at hsh
        rename_i l
        simp only [partsOk, hd] at hparts
        obtain ⟨places, hpl⟩ := Option.isSome_iff_exists.1 hparts
        have hplc : ∀ ix q, place E ⟨.struct fs, size, bytes, zero⟩ ix = some q → (fun x : Nat => places[x]?) ix = some q := by
          intro ix q hq
          simp only [place] at hq
          split at hq
          · rename_i off ft hf
            obtain ⟨j, hj, rfl⟩ := Option.map_eq_some_iff.1 hq
            rw [← hsh] at hf
            obtain ⟨fd, hfd, hfe⟩ := map_getElem? _ _ _ _ hf
            simp only [Prod.mk.injEq] at hfe
            obtain ⟨rfl, rfl⟩ := hfe
            obtain ⟨y, hy, hys⟩ := mapM_get _ _ _ hpl ix fd hfd
            obtain ⟨jj, hjj, hsz, _⟩ := (hE.ty _ _ hj).info
            rw [hjj] at hy
            simp at hy
            subst hy
            simpa [hsz] using hys
          · cases hq
        obtain ⟨arr', h1, h2, h3⟩ := fill_run (C := cx G hp bl rv w) _ _ hplc ps _ z.cells (zeroPV zero) cs hx hzr hz1 hcs
        refine .val (.agg arr') w ?_ (Post.same h rfl rfl ?_)
        · simp [execOp, ho, Instr.build, hz, run_underlying hd, Array.mapM_eq_mapM_toList, run_places w _ _ hpl]
          rw [h1]
          rfl
        · obtain ⟨l', rfl⟩ : ∃ l', arr' = ⟨l'⟩ := ⟨arr'.toList, rfl⟩
          exact .agg h2.1 h3 h2.2
      | arr n e =>
        cases d <;> simp [ShOk] at hsh
        obtain ⟨rfl, rfl⟩ := hsh
        rename_i n e
        simp only [partsOk, hd] at hparts
        obtain ⟨je, hje⟩ := Option.isSome_iff_exists.1 hparts
        have hse : (Go.sizeOf e).run P w = .ok je.size w := by simp [Go.sizeOf, typeInfo, hje]
        have hplc : ∀ ix q, place E ⟨.arr n e, size, bytes, zero⟩ ix = some q → (fun i => some (i * je.size, je.size)) ix = some q := by
          intro ix q hq
          simp only [place] at hq
          split at hq
          · obtain ⟨j, hj, rfl⟩ := Option.map_eq_some_iff.1 hq
            obtain ⟨jj, hjj, hsz, _⟩ := (hE.ty _ _ hj).info
            rw [hje] at hjj
            cases hjj
            simp [hsz]
          · cases hq
        obtain ⟨arr', h1, h2, h3⟩ := fill_run (C := cx G hp bl rv w) _ _ hplc ps _ z.cells (zeroPV zero) cs hx hzr hz1 hcs
        refine .val (.agg arr') w ?_ (Post.same h rfl rfl ?_)
        · simp [execOp, ho, Instr.build, hz, run_underlying hd, hse]
          rw [h1]
          rfl
        · obtain ⟨l', rfl⟩ : ∃ l', arr' = ⟨l'⟩ := ⟨arr'.toList, rfl⟩
          exact .agg h2.1 h3 h2.2
      | _ => simp at hag
    · cases hr
  · cases hr

theorem reps_rep {C : Cx} {zs : List Value} {xs : List AV} (h : Reps (RepA C) zs xs) (hpos : 0 < zs.length) (n : Nat) : Reps (RepA C) ((List.range (n * zs.length)).map fun i => zs.toArray[i % zs.length]!) (reps xs n) := by
  have hl : ∀ n, (reps xs n).length = n * xs.length := by
    intro n
    induction n with
    | zero => simp [reps]
    | succ n ih => simp [reps, ih, Nat.add_mul, Nat.add_comm]
  have hg : ∀ n i, i < n * xs.length → (reps xs n)[i]? = xs[i % xs.length]? := by
    intro n
    induction n with
    | zero => intro i hi; simp at hi
    | succ n ih =>
      intro i hi
      simp only [reps]
      rcases Nat.lt_or_ge i xs.length with hlt | hge
      · rw [List.getElem?_append_left hlt, Nat.mod_eq_of_lt hlt]
      · rw [List.getElem?_append_right hge, ih (i - xs.length) (by rw [Nat.add_mul] at hi; omega)]
        rw [Nat.mod_eq_sub_mod hge]
  refine ⟨by simp [hl, h.1], fun i v x hv hx => ?_⟩
  rw [List.getElem?_map] at hv
  obtain ⟨i', hi', rfl⟩ := Option.map_eq_some_iff.1 hv
  rw [List.getElem?_range] at hi'
  · cases hi'
    have hlt : i < n * xs.length := by rw [← hl]; exact (List.getElem?_eq_some_iff.1 hx).1
    rw [hg n i hlt, ← h.1] at hx
    have hm : i % zs.length < zs.length := Nat.mod_lt _ hpos
    refine h.2 (i % zs.length) _ x ?_ hx
    simp [hm]
  · by_cases hlt : i < n * zs.length
    · exact hlt
    · rw [List.getElem?_eq_none (by simp; omega)] at hi'
      cases hi'

theorem chunks_get {α : Type} (k : Nat) : ∀ (n : Nat) (l : List α) (i : Nat) (e : List α), (chunks k n l)[i]? = some e → e = (l.drop (i * k)).take k ∧ i < n
  | 0, l, i, e, h => by simp [chunks] at h
  | n + 1, l, i, e, h => by
    simp only [chunks] at h
    rcases i with _ | i
    · simp at h; exact ⟨by simp [h], by omega⟩
    · simp at h
      obtain ⟨h1, h2⟩ := chunks_get k n (l.drop k) i e h
      refine ⟨?_, by omega⟩
      rw [h1, List.drop_drop]
      congr 2
      rw [Nat.add_mul]
      omega

theorem chunks_length {α : Type} (k : Nat) : ∀ (n : Nat) (l : List α), (chunks k n l).length = n
  | 0, l => rfl
  | n + 1, l => by simp [chunks, chunks_length k n]

theorem does_empty (hE : EnvOk P E) (h : RelH G base M w0 hp bl rv w) {t : TypeId} {parts : Array (Nat × Operand)} (ho : o.op = .buildSlice t 0 parts) (hp0 : parts.isEmpty = true)
    (hr : aEmpty E hp.length t = some r) : Does P o a w (Post G base M w0 hp bl rv w r) := by
  unfold aEmpty at hr
  split at hr
  · rename_i e _ _ _ ht
    split at hr
    · rename_i i hi
      split at hr
      · rename_i hc
        obtain ⟨hpos, hraw⟩ := hc
        simp at hr; subst hr
        have hT := hE.ty _ _ hi
        have hu := (hE.ty _ _ ht).slice
        have hsz := hT.sizeOf
        have hb : Bel w.heap.size w (w.alloc (.cells #[] e)) := .alloc _ _ (Nat.le_refl _) _
        have hrow : RowOk w.heap.size noS (w.alloc (.cells #[] e)) (.slice (some ⟨w.heap.size, 0, none⟩) 0 0) e i.size [] := by
          refine .inr ⟨hpos, [], ⟨by simp, .inr ⟨w.heap.size, 0, #[], rfl, Nat.le_refl _, ?_, Nat.le_refl _, Nat.zero_le _, by simp, by simp⟩⟩, by simp, by simp, by simp⟩
          rw [ety_small hraw]
          exact Go.heap_alloc_new w _
        obtain ⟨h1, h2⟩ := h.given hb hrow
        refine .val (.slice (some ⟨w.heap.size, 0, none⟩) 0 0) (w.alloc (.cells #[] e)) ?_ ⟨bl, rvPut rv hp.length (.slice (some ⟨w.heap.size, 0, none⟩) 0 0), by simpa [Res.app, setMany] using h1, by simpa [Res.app, setMany] using h2, ?_⟩
        · have : parts = #[] := by simpa using hp0
          subst this
          have h0 : Array.map (fun x => (default : Value)) (Array.range 0) = #[] := by apply Array.toList_inj.1; simp
          simp [execOp, ho, Instr.buildSlice, run_underlying hu, hsz, newRow, newObj, Instr.fill]
          rw [h0]
          rfl
        · refine .own (ver := 0) (val := .slice (some ⟨w.heap.size, 0, none⟩) 0 0) ?_ (Nat.le_refl _) (fun _ => rfl) rfl
          simp only [Res.app, setMany, cx]
          rw [rwOf_row (e := e) (k := i.size) (ver := 0) (es := []) (by simp)]
          simp [rvPut]
      · cases hr
    · cases hr
  · cases hr

theorem does_buildSlice (hE : EnvOk P E) (h : RelH G base M w0 hp bl rv w) {t : TypeId} {n : Nat} {parts : Array (Nat × Operand)} {ps : List (Nat × AV)} (ho : o.op = .buildSlice t n parts)
    (hx : Reps (fun (p : Nat × Value) (q : Nat × AV) => p.1 = q.1 ∧ RepA (cx G hp bl rv w) p.2 q.2) (parts.toList.map fun q => (q.1, a.eval q.2)) ps)
    (hr : aBuildSlice E (fun i => hp[i]?) t n ps = some r) : Does P o a w (Post G base M w0 hp bl rv w r) := by
  unfold aBuildSlice at hr
  split at hr
  · rename_i e _ _ _ ht
    split at hr
    · rename_i i hi
      split at hr
      · rename_i hc
        obtain ⟨hpos, hsmall⟩ := hc
        split at hr
        · rename_i cs hcs
          obtain ⟨xs, hxs, rfl⟩ := Option.map_eq_some_iff.1 hr
          have hT := hE.ty _ _ hi
          have hu := (hE.ty _ _ ht).slice
          obtain ⟨z, hz, hzc⟩ := hT.zeroV w
          have hsz := hT.sizeOf w
          have hzl : i.zero.length = i.size := hT.zlen
          have hzr := zeroPV_rep (C := cx G hp bl rv w) i.zero hT.zone
          have hrr := reps_rep hzr (by omega) n
          have hz1 : ∀ v ∈ ((List.range (n * i.zero.length)).map fun j => i.zero.toArray[j % i.zero.length]!), v.oneCell' = true := by
            intro v hv
            obtain ⟨j, _, rfl⟩ := List.mem_map.1 hv
            have hm : j % i.zero.length < i.zero.length := Nat.mod_lt _ (by omega)
            have : i.zero.toArray[j % i.zero.length]! = i.zero[j % i.zero.length] := by simp [hm]
            rw [this]
            exact hT.zone _ (List.getElem_mem _)
          obtain ⟨arr', h1, h2, h3⟩ := fill_run (C := cx G hp bl rv w) (fun ix => some (ix * i.size, i.size)) (fun ix => if ix < n then some (ix * i.size, i.size) else none)
            (fun ix q hq => by split at hq; exact hq; cases hq) ps _ (((List.range (n * i.zero.length)).map fun j => i.zero.toArray[j % i.zero.length]!).toArray) (reps (zeroPV i.zero) n) cs hx (by simpa using hrr) (by simpa using hz1) hcs
          have hpv := h.demCs h2 hxs
          have hb : Bel w.heap.size w (w.alloc (.cells arr' e)) := .alloc _ _ (Nat.le_refl _) _
          have hle := (h.below hb).2
          have hlen : arr'.size = n * i.size := by
            have hl2 := h2.1
            have : cs.length = n * i.size := by
              have hfl : ∀ (pl : Nat → Option (Nat × Nat)) (ps : List (Nat × AV)) (cells cells' : List AV), fillA pl cells ps = some cells' → cells'.length = cells.length := by
                intro pl ps
                induction ps with
                | nil => intro cells cells' hf; simp [fillA] at hf; rw [hf]
                | cons q ps ih =>
                  intro cells cells' hf
                  obtain ⟨ix, av⟩ := q
                  simp only [fillA] at hf
                  split at hf
                  · split at hf
                    · rename_i hc'
                      rw [ih _ _ hf, splice_eq _ _ _ (by omega)]
                      simp
                      omega
                    · cases hf
                  · cases hf
              rw [hfl _ _ _ _ hcs, ← hrr.1]
              simp [hzl]
            simp at hl2
            omega
          refine .val (.slice (some ⟨w.heap.size, 0, none⟩) n n) (w.alloc (.cells arr' e)) ?_ (Post.below h rfl rfl hb (.p ?_))
          · have hz0 : n * i.size ≤ 2 ^ 24 := by omega
            obtain ⟨zl, hzl'⟩ : ∃ zl, z.cells = ⟨zl⟩ := ⟨z.cells.toList, rfl⟩
            rw [hzl'] at hzc
            simp at hzc
            subst hzc
            by_cases hn0 : n * i.size = 0
            · have hn : n = 0 := by
                rcases Nat.mul_eq_zero.1 hn0 with hn | hn
                · exact hn
                · omega
              subst hn
              have hfill : Instr.fill (fun i_1 => some (i_1 * i.size, i.size)) (Array.map (fun x => (default : Value)) (Array.range 0)) (List.map (fun x => (x.fst, a.eval x.snd)) parts.toList) = some arr' := by
                rw [← h1]
                congr 1
                apply Array.toList_inj.1
                simp
              simp [execOp, ho, Instr.buildSlice, run_underlying hu, hsz, hfill, newRow, newObj]
              rfl
            · have hfill : Instr.fill (fun i_1 => some (i_1 * i.size, i.size)) (Array.map (fun x => i.zero[x % i.size]?.getD default) (Array.range (n * i.size))) (List.map (fun x => (x.fst, a.eval x.snd)) parts.toList) = some arr' := by
                rw [← h1, hzl]
                congr 1
                apply Array.toList_inj.1
                simp
              simp [execOp, ho, Instr.buildSlice, run_underlying hu, hsz, Nat.not_lt.2 hz0, hn0, hz, hzl', hzl, hfill, newRow, newObj]
              rfl
          · refine .sl w.heap.size 0 (fun p q => arr'.toList.getD (p * i.size + q) undef) (chunks_length _ _ _) (Nat.le_refl _) ?_ (fun _ => rfl) ?_ ?_ ?_
            · have : n ≤ n * i.size := Nat.le_mul_of_pos_right n hpos
              simp [maxLen]; omega
            · intro el hel
              obtain ⟨p, hp1⟩ := List.getElem?_of_mem hel
              obtain ⟨rfl, hlt⟩ := chunks_get _ _ _ _ _ hp1
              have hxl : xs.length = n * i.size := by rw [← hpv.1]; simpa using hlen
              simp only [List.length_take, List.length_drop, hxl]
              have := Nat.mul_le_mul_right i.size (show p + 1 ≤ n from hlt)
              rw [Nat.add_mul] at this
              omega
            · intro p q el x hel hxx
              obtain ⟨rfl, hlt⟩ := chunks_get _ _ _ _ _ hel
              rw [List.getElem?_take] at hxx
              split at hxx
              · rw [List.getElem?_drop] at hxx
                obtain ⟨v, hv, _⟩ := hpv.get hxx
                have hg : arr'.toList.getD (p * i.size + q) undef = v := by simp only [List.getD, hv, Option.getD_some]
                rw [hg, Nat.zero_add]
                refine ⟨?_, h.fresh (Nat.le_refl _) _, h3 v (List.mem_of_getElem? hv)⟩
                have := World.cell?_alloc_mark w arr' e (0, 0) (p * i.size + q)
                exact this.trans (by simpa using hv)
              · cases hxx
            · intro p q el x hel hxx
              obtain ⟨rfl, hlt⟩ := chunks_get _ _ _ _ _ hel
              rw [List.getElem?_take] at hxx
              split at hxx
              · rw [List.getElem?_drop] at hxx
                obtain ⟨v, hv, hrep⟩ := hpv.get hxx
                have hg : arr'.toList.getD (p * i.size + q) undef = v := by simp only [List.getD, hv, Option.getD_some]
                rw [hg]
                exact RepP.le (C := cx G hp bl rv w) hle hrep
              · cases hxx
        · cases hr
      · cases hr
    · cases hr
  · cases hr

end
end Go.Proofs.Av
