/- Loads, stores, new variables, cuts, appends, calls; any operation. -/
import Derived.Test.YtedaankgfolbjaaAv9
set_option linter.unusedVariables false
set_option linter.unusedSimpArgs false
namespace Go.Proofs.Av
open Go.RowKit

section
variable {P : Program} {E : Env} {G : Stb} {base : Nat} {M : Nat → Prop} {w0 w : World} {hp : List HObj} {bl : Nat → Option Nat} {rv : Nat → Value}
variable {o : Oper} {a : Act} {r : Res}

theorem getD_of {α : Type} {l : List α} {i : Nat} {d : α} (h : i < l.length) : l[i]? = some (l.getD i d) := by simp [List.getD, List.getElem?_eq_getElem h]

theorem load_cells (w : World) (b off n : Nat) (vs : List Value) (hl : vs.length = n) (h : ∀ (j : Nat) v, vs[j]? = some v → w.cell? ⟨b, off + j, none⟩ = some v) :
    (loadCells ⟨b, off, none⟩ n).run P w = .ok vs.toArray w := by
  subst hl
  exact run_loadCells_list (P := P) (w := w) ⟨b, off, none⟩ vs (fun j v hv => by rw [addr_add]; exact h j v hv)

theorem load_run (hE : EnvOk P E) (h : RelH G base M w0 hp bl rv w) {t : TypeId} {v : Value} {ax : AV} (hx : RepA (cx G hp bl rv w) v ax)
    (hr : aLoad E (fun i => hp[i]?) t ax = some r) (hvc : r.vc) : ∃ u, (Instr.loadAt t v).run P w = .ok u w ∧ RepA (cx G hp bl rv w) u r.v ∧ r.wr = [] ∧ r.nw = [] := by
  unfold aLoad at hr
  split at hr
  · rename_i b off
    split at hr
    · rename_i cs i hb ht
      have hT := hE.ty _ _ ht
      have hag := hT.isAgg w
      have hsz := hT.sizeOf w
      obtain ⟨B, arr, e, h1, h2, h3, h4, _⟩ := h.box b cs hb
      have hcell : ∀ j v, arr[j]? = some v → w.cell? ⟨B, j, none⟩ = some v := fun j v hj => by
        have := cell_of_row w B j arr e (0, 0) h2
        rw [this]; exact hj
      cases hx with
      | @ptr _ B' off' hB =>
        simp only [cx] at hB
        rw [h1] at hB
        cases hB
        split at hr
        · rename_i hg
          simp at hr; subst hr
          simp only at hvc
          rw [hg] at hag
          refine ⟨(.agg ((arr.toList.drop off).take i.size).toArray), ?_, .agg ?_ ?_ ?_, rfl, rfl⟩
          · have hl := load_cells (P := P) w B off i.size ((arr.toList.drop off).take i.size) (by simp; omega) (fun j v hj => by
              rw [List.getElem?_take] at hj
              split at hj
              · rw [List.getElem?_drop] at hj
                exact hcell _ _ (by simpa using hj)
              · cases hj)
            simp [Instr.loadAt, Instr.sureAddr, loadVar, hag, hsz, hl]
          · simp; omega
          · intro v hv'
            obtain ⟨j, hj⟩ := List.getElem?_of_mem hv'
            rw [List.getElem?_take] at hj
            split at hj
            · rw [List.getElem?_drop] at hj
              have hjl : off + j < cs.length := by omega
              exact (h4 (off + j) v _ (by simpa using hj) (List.getElem?_eq_getElem hjl)).1
            · cases hj
          · intro j v c hv' hc
            rw [List.getElem?_take] at hv' hc
            split at hv'
            · rename_i hlt
              rw [if_pos hlt] at hc
              rw [List.getElem?_drop] at hv' hc
              exact (h4 _ v c (by simpa using hv') hc).2
            · cases hv'
        · rename_i hg
          simp at hr; subst hr
          simp only at hvc
          have hag2 : (Go.isAgg t).run P w = .ok false w := by rw [hag]; simp [hg]
          have hlt : off < arr.size := Nat.lt_of_lt_of_le hvc h3
          refine ⟨arr[off], ?_, ?_, rfl, rfl⟩
          · have := hcell off arr[off] (by simp [hlt])
            simp [Instr.loadAt, Instr.sureAddr, loadVar, hag2, load, Sem.run, this]
          · exact (h4 off _ _ (by simp [hlt]) (getD_of hvc)).2
    · cases hr
  · rename_i cs
    split at hr
    · rename_i i ht
      have hT := hE.ty _ _ ht
      have hag := hT.isAgg w
      have hsz := hT.sizeOf w
      cases hx with
      | elt b off g hcell hrep =>
        split at hr
        · rename_i hg
          simp at hr; subst hr
          simp only at hvc
          rw [hg] at hag
          have hgl : ∀ (j : Nat) v, ((List.range i.size).map g)[j]? = some v → v = g j ∧ ∃ y, cs[j]? = some y := by
            intro j v hj
            obtain ⟨j', hj', rfl⟩ := map_getElem? _ _ _ _ hj
            have hlt : j < i.size := by simpa using (List.getElem?_eq_some_iff.1 hj').1
            rw [List.getElem?_range hlt] at hj'
            cases hj'
            exact ⟨rfl, _, List.getElem?_eq_getElem (by omega)⟩
          refine ⟨(.agg ((List.range i.size).map g).toArray), ?_, .p (.agg ?_ ?_ ?_), rfl, rfl⟩
          · have hl := load_cells (P := P) w b off i.size ((List.range i.size).map g) (by simp) (fun j v hj => by
              obtain ⟨rfl, y, hy⟩ := hgl j v hj
              exact (hcell j y hy).1)
            simp [Instr.loadAt, Instr.sureAddr, loadVar, hag, hsz, hl]
          · simp; omega
          · intro v hv'
            obtain ⟨j, hj⟩ := List.getElem?_of_mem hv'
            obtain ⟨rfl, y, hy⟩ := hgl j v hj
            exact (hcell j y hy).2.2
          · intro j v c hv' hc
            obtain ⟨rfl, y, hy⟩ := hgl j v hv'
            rw [List.getElem?_take] at hc
            split at hc
            · exact hrep j c hc
            · cases hc
        · rename_i hg
          simp at hr; subst hr
          simp only at hvc
          have hag2 : (Go.isAgg t).run P w = .ok false w := by rw [hag]; simp [hg]
          refine ⟨(g 0), ?_, .p ?_, rfl, rfl⟩
          · have := (hcell 0 _ (getD_of (d := .tup []) hvc)).1
            rw [Nat.add_zero] at this
            change w.cell? ⟨b, off, none⟩ = some (g 0) at this
            simp [Instr.loadAt, Instr.sureAddr, loadVar, hag2, load, Sem.run, this]
          · exact hrep 0 _ (getD_of hvc)
    · cases hr
  · cases hr

theorem does_load (hE : EnvOk P E) (h : RelH G base M w0 hp bl rv w) {t : TypeId} {x : Operand} {ax : AV} (ho : o.op = .load t x) (hx : RepA (cx G hp bl rv w) (a.eval x) ax)
    (hr : aLoad E (fun i => hp[i]?) t ax = some r) (hvc : r.vc) : Does P o a w (Post G base M w0 hp bl rv w r) := by
  obtain ⟨u, hu, hrep, e1, e2⟩ := load_run (P := P) hE h hx hr hvc
  exact .val u w (by simp [execOp, ho, hu]) (Post.same h e1 e2 hrep)

theorem does_store (hE : EnvOk P E) (h : RelH G base M w0 hp bl rv w) {t : TypeId} {x y : Operand} {ax ay : AV} (ho : o.op = .store t x y) (hx : RepA (cx G hp bl rv w) (a.eval x) ax) (hy : RepA (cx G hp bl rv w) (a.eval y) ay)
    (hr : aStore E (fun i => hp[i]?) t ax ay = some r) (hvc : r.vc) : Does P o a w (Post G base M w0 hp bl rv w r) := by
  unfold aStore at hr
  split at hr
  · rename_i b off
    split at hr
    · rename_i cs i hb ht
      split at hr
      · rename_i hk
        obtain ⟨hok, hlen⟩ := hk
        simp at hr; subst hr
        simp only at hvc
        have hT := hE.ty _ _ ht
        have hsz := hT.sizeOf w
        obtain ⟨B, arr, e, h1, h2, h3, h4, _⟩ := h.box b cs hb
        obtain ⟨hcr, hc1⟩ := hy.cells hok
        generalize hv : a.eval x = v at *
        cases hx with
        | @ptr _ B' off' hB =>
          simp only [cx] at hB
          rw [h1] at hB
          cases hB
          have hvl : (a.eval y).cells.size = i.size := by have := hcr.1; simp at this; omega
          have har : Reps (RepA (cx G hp bl rv w)) (arr.toList.take cs.length) cs := ⟨by simp; omega, fun j v c hv hc => by
            rw [List.getElem?_take] at hv
            split at hv
            · exact (h4 j v c (by simpa using hv) hc).2
            · cases hv⟩
          have ha1 : ∀ u ∈ arr.toList.take cs.length, u.oneCell' = true := by
            intro u hu
            obtain ⟨j, hj⟩ := List.getElem?_of_mem hu
            rw [List.getElem?_take] at hj
            split at hj
            · rename_i hjl
              exact (h4 j u _ (by simpa using hj) (List.getElem?_eq_getElem hjl)).1
            · cases hj
          have hrun := run_storeCells_at (P := P) B off e (a.eval y).cells.toList 0 arr w h2 (by simp [hvl]; omega) hc1
          rw [Nat.add_zero] at hrun
          have hsp := splice_eq cs off ay.cells (by omega)
          have hnew : Reps (RepA (cx G hp bl rv w)) ((arr.toList.take cs.length).take off ++ (a.eval y).cells.toList ++ (arr.toList.take cs.length).drop (off + (a.eval y).cells.toList.length)) (splice cs off ay.cells) := by
            rw [hsp, ← hcr.1]
            exact ((har.take off).app hcr).app (har.drop _)
          have hn1 : ∀ u ∈ ((arr.toList.take cs.length).take off ++ (a.eval y).cells.toList ++ (arr.toList.take cs.length).drop (off + (a.eval y).cells.toList.length)), u.oneCell' = true := by
            intro u hu
            simp only [List.mem_append] at hu
            rcases hu with (hu | hu) | hu
            · exact ha1 u (List.mem_of_mem_take hu)
            · exact hc1 u hu
            · exact ha1 u (List.mem_of_mem_drop hu)
          have hsplen : (splice cs off ay.cells).length = cs.length := by
            rw [hsp]; simp; omega
          have hyl : (a.eval y).cells.toList.length = i.size := by simpa using hvl
          have hat : ∀ (j : Nat), j < cs.length → (arr.toList.take off ++ (a.eval y).cells.toList ++ arr.toList.drop (off + (a.eval y).cells.toList.length))[j]? = ((arr.toList.take cs.length).take off ++ (a.eval y).cells.toList ++ (arr.toList.take cs.length).drop (off + (a.eval y).cells.toList.length))[j]? := by
            intro j hj
            have e1 : (arr.toList.take cs.length).take off = arr.toList.take off := by rw [List.take_take]; congr 1; omega
            rw [e1]
            have hl1 : (arr.toList.take off ++ (a.eval y).cells.toList).length = off + i.size := by rw [List.length_append, hyl]; simp; omega
            rcases Nat.lt_or_ge j (off + i.size) with hlt | hge
            · exact (List.getElem?_append_left (by omega)).trans (List.getElem?_append_left (by omega)).symm
            · refine (List.getElem?_append_right (by omega)).trans (Eq.trans ?_ (List.getElem?_append_right (by omega)).symm)
              rw [List.getElem?_drop, List.getElem?_drop, List.getElem?_take, if_pos (by omega)]
          have hst := h.store (arr' := (arr.toList.take off ++ (a.eval y).cells.toList ++ arr.toList.drop (off + (a.eval y).cells.toList.length)).toArray) (cs' := splice cs off ay.cells) hb h1 h2 (by rw [hsplen]; simp; omega) (by
              intro c hc
              rw [hsp] at hc
              simp only [List.mem_append] at hc
              rcases hc with (hc | hc) | hc
              · exact h.ng b cs hb c (List.mem_of_mem_take hc)
              · exact okCells_ng hok c hc
              · exact h.ng b cs hb c (List.mem_of_mem_drop hc))
            (fun j v c hv hc => by
              have hj : j < cs.length := by rw [← hsplen]; exact (List.getElem?_eq_some_iff.1 hc).1
              have hv' : ((arr.toList.take cs.length).take off ++ (a.eval y).cells.toList ++ (arr.toList.take cs.length).drop (off + (a.eval y).cells.toList.length))[j]? = some v := by
                rw [← hat j hj]
                rw [← hv, List.getElem?_toArray]
              exact ⟨hn1 v (List.mem_of_getElem? hv'), hnew.2 j v c hv' hc⟩)
          refine .skip (w.setRow B (arr.toList.take off ++ (a.eval y).cells.toList ++ arr.toList.drop (off + (a.eval y).cells.toList.length)).toArray) ?_ ⟨bl, rv, ?_, ?_, .dead⟩
          · simp [execOp, ho, hv, Instr.storeAt, Instr.sureAddr, storeVar, hsz, hvl]
            rw [hrun]
            simp [hvl]
          · simpa [Res.app, setMany] using hst.1
          · simpa [Res.app, setMany] using hst.2
      · cases hr
    · cases hr
  · cases hr

theorem does_box (h : RelH G base M w0 hp bl rv w) {t : TypeId} {x : Operand} {ax : AV} (ho : o.op = .box t x) (hx : RepA (cx G hp bl rv w) (a.eval x) ax) (hk : ax.okCells = true) :
    Does P o a w (Post G base M w0 hp bl rv w { v := .ptr hp.length 0, nw := [.box ax.cells], al := true }) := by
  obtain ⟨hcr, hc1⟩ := hx.cells hk
  have hle := h.newBox_le ax.cells 0 (.cells (a.eval x).cells t)
  have hnb := h.newBox ax.cells 0 (a.eval x).cells t (by have := hcr.1; simp at this; omega) (okCells_ng hk) (fun j v c hv hc => ⟨hc1 v (List.mem_of_getElem? (by simpa using hv)), (hcr.2 j v c (by simpa using hv) hc).le hle⟩)
  refine .val (.pointer (some ⟨w.heap.size, 0, none⟩)) (w.alloc (.cells (a.eval x).cells t)) ?_ ⟨_, _, hnb, hle, .ptr ?_⟩
  · simp [execOp, ho, Instr.box, newVar, newRow, newObj]
    rfl
  · simp [cx, blNew]

theorem zeroCells_rep : ∀ (zs : List Value) (n : Nat) (C : Cx), (∀ z ∈ zs, z.oneCell' = true) → (∀ i, n ≤ i → i < n + (zeroCells n zs).2.length → C.rw_ i = some (0, .slice none 0 0)) → Reps (RepA C) zs (zeroCells n zs).1 := by
  intro zs
  induction zs with
  | nil => intro n C _ _; exact Reps.nil
  | cons v vs ih =>
    intro n C h1 hw
    by_cases hs : v = .slice none 0 0
    · subst hs
      have e : zeroCells n (.slice none 0 0 :: vs) = (.own n 0 :: (zeroCells (n + 1) vs).1, .row 0 0 0 [] :: (zeroCells (n + 1) vs).2) := by rw [zeroCells]
      rw [e] at hw ⊢
      simp only [List.length_cons] at hw
      exact .cons (.own (hw n (Nat.le_refl _) (by omega)) (Nat.le_refl _) (fun _ => rfl) rfl) (ih (n + 1) C (fun z hz => h1 z (by simp [hz])) (fun i hi hlt => hw i (by omega) (by omega)))
    · have e : zeroCells n (v :: vs) = (.p (.sc v) :: (zeroCells n vs).1, (zeroCells n vs).2) := by
        rw [zeroCells]
        exact hs
      rw [e] at hw ⊢
      exact .cons (.p (.sc (h1 v (by simp)))) (ih n C (fun z hz => h1 z (by simp [hz])) hw)

theorem zeroCells_rows : ∀ (zs : List Value) (n : Nat), ∃ m, (zeroCells n zs).2 = List.replicate m nilRow := by
  intro zs
  induction zs with
  | nil => intro n; exact ⟨0, rfl⟩
  | cons v vs ih =>
    intro n
    by_cases hs : v = .slice none 0 0
    · subst hs
      obtain ⟨m, hm⟩ := ih (n + 1)
      refine ⟨m + 1, ?_⟩
      rw [zeroCells]
      simp [hm, List.replicate_succ]
    · obtain ⟨m, hm⟩ := ih n
      refine ⟨m, ?_⟩
      have e : zeroCells n (v :: vs) = (.p (.sc v) :: (zeroCells n vs).1, (zeroCells n vs).2) := by
        rw [zeroCells]
        exact hs
      rw [e]
      exact hm

theorem zeroCells_ng : ∀ (zs : List Value) (n : Nat), ∀ c ∈ (zeroCells n zs).1, c.ng = true := by
  intro zs
  induction zs with
  | nil => intro n c hc; simp [zeroCells] at hc
  | cons v vs ih =>
    intro n c hc
    by_cases hs : v = .slice none 0 0
    · subst hs
      rw [zeroCells] at hc
      simp at hc
      rcases hc with rfl | hc
      · rfl
      · exact ih _ c hc
    · have e : zeroCells n (v :: vs) = (.p (.sc v) :: (zeroCells n vs).1, (zeroCells n vs).2) := by
        rw [zeroCells]
        exact hs
      rw [e] at hc
      simp at hc
      rcases hc with rfl | hc
      · rfl
      · exact ih _ c hc

theorem does_alloc (hE : EnvOk P E) (h : RelH G base M w0 hp bl rv w) {t : TypeId} (ho : o.op = .alloc t) (hr : aAlloc E hp.length t = some r) : Does P o a w (Post G base M w0 hp bl rv w r) := by
  unfold aAlloc at hr
  split at hr
  · rename_i i hi
    simp at hr; subst hr
    have hT := hE.ty _ _ hi
    obtain ⟨z, hz, hzc⟩ := hT.zeroV w
    obtain ⟨m, hm⟩ := zeroCells_rows i.zero (hp.length + 1)
    have hle := h.newBox_le (zeroCells (hp.length + 1) i.zero).1 m (.cells z.cells t)
    have hrep := zeroCells_rep i.zero (hp.length + 1) (cx G (hp ++ .box (zeroCells (hp.length + 1) i.zero).1 :: List.replicate m nilRow) (blNew bl hp.length w.heap.size) (rvNew rv hp.length) (w.alloc (.cells z.cells t))) hT.zone (by
      intro j hj hlt
      simp only [cx]
      rw [hm] at hlt
      simp at hlt
      rw [rwOf_row (e := 0) (k := 0) (ver := 0) (es := [])]
      · simp [rvNew, Nat.not_lt.2 (show hp.length ≤ j by omega)]
      · rw [List.getElem?_append_right (by omega)]
        obtain ⟨q, hq⟩ : ∃ q, j - hp.length = q + 1 := ⟨j - hp.length - 1, by omega⟩
        rw [hq]
        simp [List.getElem?_replicate]
        omega)
    have hnb := h.newBox _ m z.cells t (by rw [← hrep.1, ← hzc]; simp) (zeroCells_ng _ _) (fun j v c hv hc => ⟨hT.zone v (by rw [← hzc]; exact List.mem_of_getElem? (by simpa using hv)), hrep.2 j v c (by rw [← hzc]; simpa using hv) hc⟩)
    refine .val (.pointer (some ⟨w.heap.size, 0, none⟩)) (w.alloc (.cells z.cells t)) ?_ ⟨blNew bl hp.length w.heap.size, rvNew rv hp.length, ?_, ?_, .ptr ?_⟩
    · simp [execOp, ho, Instr.alloc, hz, newVar, newRow, newObj]
      rfl
    · simp only [Res.app, setMany, hm]
      exact hnb
    · simp only [Res.app, setMany, hm]
      exact hle
    · simp [cx, blNew]
  · cases hr

theorem run_sliceBound (k : IntKind) (i : Int) (y : Nat) (code : BoundsCode) (h0 : 0 ≤ i) (h1 : i ≤ (y : Int)) : (Instr.sliceBound (.int k i) y code).run P w = .ok i.toNat w := by
  simp [Instr.sliceBound, asIntOf, h0, h1]

theorem does_slice (hE : EnvOk P E) (h : RelH G base M w0 hp bl rv w) {t : TypeId} {x : Operand} {lo hi : Option Operand} {ax : AV} {ρ : Operand → AV} (ho : o.op = .slice t x lo hi none) (hx : RepA (cx G hp bl rv w) (a.eval x) ax)
    (hlo : ∀ z, lo = some z → RepA (cx G hp bl rv w) (a.eval z) (ρ z)) (hhi : ∀ z, hi = some z → RepA (cx G hp bl rv w) (a.eval z) (ρ z))
    (hr : aSlice E (fun i => hp[i]?) t ax (lo.map ρ) (hi.map ρ) = some r) (hvc : r.vc) : Does P o a w (Post G base M w0 hp bl rv w r) := by
  have bnd : ∀ (isS : Bool) (len cap : Nat) (l u : Int), (lo.map ρ).elim (some 0) natOf = some l → (hi.map ρ).elim (some (len : Int)) natOf = some u → len ≤ cap → 0 ≤ l → l ≤ u → u ≤ len →
      (Instr.sliceBounds isS len cap (lo.map a.eval) (hi.map a.eval) none).run P w = .ok (l.toNat, u.toNat, cap) w := by
    intro isS len cap l u hl hu hlc h0 h1 h2
    have hH : (match (hi.map a.eval : Option Value) with | some v => (Instr.sliceBound v cap (if isS then .sliceAcap else .sliceAlen)).run P w | none => .ok len w) = Result.ok u.toNat w := by
      cases hi with
      | none => simp at hu; simp [← hu]
      | some z =>
        simp at hu
        obtain ⟨k, hk⟩ := natOf_rep (hhi z rfl) hu
        simp only [Option.map_some, hk]
        exact run_sliceBound k u cap _ (by omega) (by omega)
    have hL : (match (lo.map a.eval : Option Value) with | some v => (Instr.sliceBound v u.toNat .sliceB).run P w | none => .ok 0 w) = Result.ok l.toNat w := by
      cases lo with
      | none => simp at hl; simp [← hl]
      | some z =>
        simp at hl
        obtain ⟨k, hk⟩ := natOf_rep (hlo z rfl) hl
        simp only [Option.map_some, hk]
        exact run_sliceBound k l u.toNat _ h0 (by omega)
    cases hi <;> cases lo <;> simp at hH hL <;> simp [Instr.sliceBounds, hH, hL]
  unfold aSlice at hr
  split at hr
  · rename_i ht
    have hu := (hE.ty _ _ ht).str
    split at hr
    · rename_i s
      split at hr
      · rename_i l u hl hu'
        simp at hr; subst hr
        simp only at hvc
        have hb := bnd false s.size s.size l u hl hu' (Nat.le_refl _) hvc.1 hvc.2.1 hvc.2.2
        refine .val _ w ?_ (Post.same h rfl rfl (.p (.sc rfl)))
        simp [execOp, ho, hx.scv, Instr.sliceAt, run_underlying hu, Instr.slice, hb]
      · cases hr
    · cases hr
  · rename_i e _ _ _ ht
    have hu := (hE.ty _ _ ht).slice
    split at hr
    · rename_i i k es hi' hs
      split at hr
      · rename_i l u hl hu'
        simp at hr; subst hr
        simp only at hvc
        obtain ⟨hk, h0, h1, h2⟩ := hvc
        have hsz := (hE.ty _ _ hi').sizeOf w
        have hrep := asSl_rep h hx hs
        generalize hv : a.eval x = v at *
        cases hrep with
        | @sl A n c _ _ b off g hn hc hm hA hkk hcell hrep =>
          subst hn
          have hb := bnd true es.length c l u hl hu' hc h0 h1 h2
          refine .val (.slice (if c = l.toNat then A else A.map (·.add (l.toNat * i.size))) (u.toNat - l.toNat) (c - l.toNat)) w ?_ (Post.same h rfl rfl (.p ?_))
          · simp [execOp, ho, hv, Instr.sliceAt, run_underlying hu, Instr.slice, hb, hsz]
          · refine .sl b (off + l.toNat * k) (fun p q => g (l.toNat + p) q) (by simp; omega) (by omega) (by omega) (fun hlt => ?_) (fun el hel => hkk el (List.mem_of_mem_take (List.mem_of_mem_drop hel))) ?_ ?_
            · have hpos : 0 < es.length := by omega
              have hne : es ≠ [] := by intro e; subst e; simp at hpos
              rw [if_neg (by omega), hA hpos]
              rcases hk with hk | hk
              · subst hk; simp [addr_add]
              · exact absurd hk hne
            · intro p q el y hel hy
              rw [List.getElem?_drop, List.getElem?_take] at hel
              split at hel
              · have := hcell _ _ _ _ hel hy
                rw [Nat.add_mul] at this
                rw [show off + l.toNat * k + p * k + q = off + (l.toNat * k + p * k) + q by omega]
                exact this
              · cases hel
            · intro p q el y hel hy
              rw [List.getElem?_drop, List.getElem?_take] at hel
              split at hel
              · exact hrep _ _ _ _ hel hy
              · cases hel
      · cases hr
    · cases hr
  · cases hr

end
end Go.Proofs.Av
