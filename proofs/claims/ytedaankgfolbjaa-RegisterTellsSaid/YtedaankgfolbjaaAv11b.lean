/- Further operations: bits, pointers held against nil, texts and bytes. -/
import Derived.Test.YtedaankgfolbjaaAv11
import Derived.Laws.Pointers
set_option linter.unusedVariables false
set_option linter.unusedSimpArgs false
namespace Go.Proofs.Av
open Go.RowKit

section
variable {P : Program} {E : Env} {G : Stb} {base : Nat} {M : Nat → Prop} {w0 w : World} {hp : List HObj} {bl : Nat → Option Nat} {rv : Nat → Value}
variable {o : Oper} {a : Act} {r : Res}

theorem TyOk.ptr {t e : TypeId} {a b : Nat} {z : List Value} (h : TyOk P t ⟨.ptr e, a, b, z⟩) : P.underlying t = some (.pointer (P.pointee t)) := by
  obtain ⟨d, hd, hs⟩ := h.und
  cases d <;> simp [ShOk] at hs
  subst hs
  simp [Program.pointee, hd]

theorem guard_ptr (op : BinOp) (t : TypeId) (x y : Operand) (p q : Option Addr) (w : World) : (eqGuard op t x y (.pointer p) (.pointer q)).run P w = .ok () w := by
  cases op <;> simp [eqGuard]

theorem does_binX (hE : EnvOk P E) (h : RelH G base M w0 hp bl rv w) {op : BinOp} {t u : TypeId} {x y : Operand} {ax ay : AV} (ho : o.op = .binOp op t x y u) (hx : RepA (cx G hp bl rv w) (a.eval x) ax) (hy : RepA (cx G hp bl rv w) (a.eval y) ay)
    (hr : aBinX E op t ax ay = some r) (hvc : r.vc) : Does P o a w (Post G base M w0 hp bl rv w r) := by
  unfold aBinX at hr
  split at hr
  · cases hr
    simp only at hvc
    refine .val _ w ?_ (Post.same h rfl rfl (.p (.sc rfl)))
    simp [execOp, ho, hx.scv, hy.scv, guard_int, binOp, Op.shift, Int.not_lt.2 hvc]
  · cases hr
    simp only at hvc
    refine .val _ w ?_ (Post.same h rfl rfl (.p (.sc rfl)))
    simp [execOp, ho, hx.scv, hy.scv, guard_int, binOp, Op.shift, Int.not_lt.2 hvc]
  · split at hr
    · rename_i hk
      subst hk
      cases hr
      refine .val _ w ?_ (Post.same h rfl rfl (.p (.sc rfl)))
      simp [execOp, ho, hx.scv, hy.scv, guard_int, binOp, Op.intBits]
    · cases hr
  · split at hr
    · rename_i hk
      subst hk
      cases hr
      refine .val _ w ?_ (Post.same h rfl rfl (.p (.sc rfl)))
      simp [execOp, ho, hx.scv, hy.scv, guard_int, binOp, Op.intBits]
    · cases hr
  · split at hr
    · rename_i ht
      have hu := (hE.ty _ _ ht).ptr
      cases hr
      refine .val _ w ?_ (Post.same h rfl rfl (.p (.sc rfl)))
      cases hev : a.eval x with
      | pointer p =>
        rw [hev] at hx
        cases hx with
        | ptr hb => simp [execOp, ho, hev, hy.scv, guard_ptr, run_eql_pointer_nil w t _ hu]
      | _ => rw [hev] at hx; cases hx
    · cases hr
  · split at hr
    · rename_i ht
      have hu := (hE.ty _ _ ht).ptr
      cases hr
      refine .val _ w ?_ (Post.same h rfl rfl (.p (.sc rfl)))
      cases hev : a.eval x with
      | pointer p =>
        rw [hev] at hx
        cases hx with
        | ptr hb => simp [execOp, ho, hev, hy.scv, guard_ptr, run_neq_pointer_nil w t _ hu]
      | _ => rw [hev] at hx; cases hx
    · cases hr
  · split at hr
    · rename_i ht
      have hu := (hE.ty _ _ ht).ptr
      cases hr
      refine .val _ w ?_ (Post.same h rfl rfl (.p (.sc rfl)))
      simp [execOp, ho, hx.scv, hy.scv, guard_ptr, run_eql_pointer_nil w t _ hu]
    · cases hr
  · split at hr
    · rename_i ht
      have hu := (hE.ty _ _ ht).ptr
      cases hr
      refine .val _ w ?_ (Post.same h rfl rfl (.p (.sc rfl)))
      simp [execOp, ho, hx.scv, hy.scv, guard_ptr, run_neq_pointer_nil w t _ hu]
    · cases hr
  · cases hr

theorem numsOf_get : ∀ {es : List (List PV)} {ns : List Int}, numsOf es = some ns → ns.length = es.length ∧ ∀ (i : Nat) n, ns[i]? = some n → es[i]? = some [.sc (.int .u8 n)]
  | [], ns, h => by simp [numsOf] at h; subst h; exact ⟨rfl, by simp⟩
  | e :: es, ns, h => by
    unfold numsOf at h
    split at h
    · rename_i h1; cases h1
    · rename_i h1; cases h1
      obtain ⟨m, hm, rfl⟩ := Option.map_eq_some_iff.1 h
      obtain ⟨k1, k2⟩ := numsOf_get hm
      refine ⟨by simp [k1], fun i n hi => ?_⟩
      cases i with
      | zero => simp at hi; subst hi; rfl
      | succ i => exact k2 i n (by simpa using hi)
    · cases h

theorem does_convX (hE : EnvOk P E) (h : RelH G base M w0 hp bl rv w) {s d : TypeId} {x : Operand} {ax : AV} (ho : o.op = .convert s d x) (hx : RepA (cx G hp bl rv w) (a.eval x) ax)
    (hr : aConvX E (fun i => hp[i]?) s d ax = some r) (hvc : r.vc) : Does P o a w (Post G base M w0 hp bl rv w r) := by
  unfold aConvX at hr
  split at hr
  · rename_i hs hd
    have h1 := (hE.ty _ _ hs).str
    have h2 := (hE.ty _ _ hd).str
    split at hr
    · cases hr
      refine .val _ w ?_ (Post.same h rfl rfl (.p (.sc rfl)))
      simp [execOp, ho, hx.scv, convert, run_underlying h1, run_underlying h2]
    · cases hr
  · rename_i hs hd
    have h1 := (hE.ty _ _ hs).slice
    have h2 := (hE.ty _ _ hd).str
    split at hr
    · rename_i kk es he ha
      have h3 := (hE.ty _ _ he).int
      obtain ⟨ns, hns, rfl⟩ := Option.map_eq_some_iff.1 hr
      obtain ⟨hl, hg⟩ := numsOf_get hns
      have hrep := asSl_rep h hx ha
      refine .val (.string (strOfNums ns)) w ?_ (Post.same h rfl rfl (.p (.sc rfl)))
      generalize hev : a.eval x = v at hrep hx
      cases hrep with
      | @sl A n c _ _ b off g hn hc hm hA hk hcell hr' =>
        by_cases h0 : 0 < n
        · obtain rfl := hA h0
          have hk1 : kk = 1 := by
            have hi : 0 < ns.length := by omega
            have := hk _ (List.mem_of_getElem? (hg 0 ns[0] (List.getElem?_eq_getElem hi)))
            simpa using this.symm
          subst hk1
          have := run_convert_bytes_arg (P := P) w s _ h1 h3 b off n c ns (by omega) (fun i hi => by
            have hi' : i < ns.length := by omega
            have he' := hg i ns[i] (List.getElem?_eq_getElem hi')
            have k1 := (hcell i 0 _ _ he' rfl).1
            have k2 := hr' i 0 _ _ he' rfl
            rw [k2.scv] at k1
            simp only [Nat.mul_one, Nat.add_zero] at k1
            rw [k1]
            simp [List.getD, List.getElem?_eq_getElem hi']) d h2
          simp [execOp, ho, hev, this]
        · have hn0 : n = 0 := by omega
          have hns0 : ns = [] := List.eq_nil_of_length_eq_zero (by omega)
          subst hn0
          subst hns0
          cases A with
          | none =>
            have := run_convert_bytes_nil (P := P) w s _ h1 h3 0 c d h2
            simp [execOp, ho, hev, this, strOfNums]
            rfl
          | some A =>
            have hl := run_loadCells_list (P := P) w A [] (by simp)
            have := run_bytesToString (P := P) w A 0 c [] (by simpa using hl)
            simp [execOp, ho, hev, run_convert_bytes_string w s d _ _ _ _ h1 h3 h2, this, strOfNums]
            rfl
    · cases hr
  · rename_i e _ _ _ hs hd
    have h1 := (hE.ty _ _ hs).str
    have h2 := (hE.ty _ _ hd).slice
    split at hr
    · rename_i bs he
      have h3 := (hE.ty _ _ he).int
      cases hr
      simp only at hvc
      have hrun := run_bytes_of_string (P := P) w s d _ bs h1 h2 h3
      have hge := grownCap_ge w bs.size 0 e
      have hcm := grownCap_le_maxLen w bs.size 0 e (by unfold maxLen; omega)
      have hb : Bel w.heap.size w (w.drew.alloc (.cells (bytesRow bs (grownCap w bs.size 0 e)) e ((bytesRow bs (grownCap w bs.size 0 e)).size, (bytesRow bs (grownCap w bs.size 0 e)).size + 1))) :=
        ⟨((Below.refl _ _).drew).alloc (Nat.le_refl _) _, Nat.le_succ _⟩
      refine .val _ _ (by simp [execOp, ho, hx.scv, hrun]; rfl) (Post.below h rfl rfl hb (.p ?_))
      have hcells : ∀ (i j : Nat) (el : List PV) (x : PV), (bs.data.toList.map fun c => [PV.sc (.int .u8 c.toNat)])[i]? = some el → el[j]? = some x → j = 0 ∧ ∃ c, bs.data.toList[i]? = some c ∧ x = .sc (.int .u8 c.toNat) := by
        intro i j el x hel hx
        obtain ⟨c, hc, rfl⟩ := map_getElem? _ _ _ _ hel
        have hj := (List.getElem?_eq_some_iff.1 hx).1
        simp at hj
        subst hj
        simp at hx
        exact ⟨rfl, c, hc, hx.symm⟩
      have hlen : (bs.data.toList.map fun c => [PV.sc (.int .u8 c.toNat)]).length = bs.size := by
        rw [List.length_map]; rfl
      refine .sl w.heap.size 0 (fun p q => .int .u8 ((bs.data.toList.getD p 0).toNat : Int)) hlen hge hcm (fun _ => rfl) ?_ ?_ ?_
      · intro el hel
        obtain ⟨c, _, rfl⟩ := List.mem_map.1 hel
        rfl
      · intro i j el x hel hx
        obtain ⟨rfl, c, hc, rfl⟩ := hcells i j el x hel hx
        refine ⟨?_, h.fresh (Nat.le_refl _) _, rfl⟩
        have hm := World.cell?_alloc_mark w.drew (bytesRow bs (grownCap w bs.size 0 e)) e ((bytesRow bs (grownCap w bs.size 0 e)).size, (bytesRow bs (grownCap w bs.size 0 e)).size + 1) (0 + i * 1 + 0)
        refine hm.trans ?_
        have hi := (List.getElem?_eq_some_iff.1 hc).1
        simp at hi
        simp [bytesRow, List.getD, hc]
        rw [Array.getElem?_append_left (by simpa using hi)]
        simp at hc
        simp [hc]
      · intro i j el x hel hx
        obtain ⟨rfl, c, hc, rfl⟩ := hcells i j el x hel hx
        have : bs.data.toList.getD i 0 = c := by simp only [List.getD, hc, Option.getD_some]
        rw [this]
        exact .sc rfl
    · cases hr
  · cases hr

theorem asB_eq {x : AV} {q : Nat × Nat × Nat × Nat} (h : asB x = some q) : x = .bsl q.1 q.2.1 q.2.2.1 q.2.2.2 := by
  unfold asB at h
  split at h
  · cases h; rfl
  · cases h

theorem does_indexB (hE : EnvOk P E) (h : RelH G base M w0 hp bl rv w) {t : TypeId} {x i : Operand} {ai : AV} {b k lo hi : Nat} (ho : o.op = .indexAddr t x i) (hx : RepA (cx G hp bl rv w) (a.eval x) (.bsl b k lo hi)) (hi' : RepA (cx G hp bl rv w) (a.eval i) ai)
    (hr : aIndexB E t b k lo hi ai = some r) (hvc : r.vc) : Does P o a w (Post G base M w0 hp bl rv w r) := by
  unfold aIndexB at hr
  split at hr
  · rename_i n e _ _ _ hn ht
    obtain ⟨q, hiv⟩ := natOf_rep hi' hn
    have hu := (hE.ty _ _ ht).slice
    split at hr
    · rename_i j hj
      split at hr
      · rename_i hk
        have hsz := (hE.ty _ _ hj).sizeOf (P := P) w
        cases hr
        simp only at hvc
        generalize hv : a.eval x = v at hx
        cases hx with
        | @bsl _ B _ _ _ c m A hB hn' hc hm hAB hA =>
          obtain rfl := hA (by omega)
          refine .val _ w ?_ (Post.same h rfl rfl (.ptr hB))
          subst hk
          have hlt : n < (m : Int) := by omega
          simp [execOp, ho, hv, hiv, Instr.indexAt, asIntOf, run_underlying hu, hvc.1, hlt, hsz, addr_add, Nat.add_mul]
      · cases hr
    · cases hr
  · cases hr

theorem run_bounds {lo hi : Option Operand} {C : Cx} {ρ : Operand → AV} (hlo : ∀ z, lo = some z → RepA C (a.eval z) (ρ z)) (hhi : ∀ z, hi = some z → RepA C (a.eval z) (ρ z)) :
    ∀ (isS : Bool) (len cap : Nat) (l u : Int), (lo.map ρ).elim (some 0) natOf = some l → (hi.map ρ).elim (some (len : Int)) natOf = some u → len ≤ cap → 0 ≤ l → l ≤ u → u ≤ len →
      (Instr.sliceBounds isS len cap (lo.map a.eval) (hi.map a.eval) none).run P w = .ok (l.toNat, u.toNat, cap) w := by
  intro isS len cap l u hl hu hlc h0 h1 h2
  have hH : (match (hi.map a.eval : Option Value) with | some v => (Instr.sliceBound v cap (if isS then .sliceAcap else .sliceAlen)).run P w | none => .ok len w) = Result.ok u.toNat w := by
    cases hi with
    | none => simp at hu; simp [← hu]
    | some z =>
      simp at hu
      obtain ⟨k, hk⟩ := natOf_rep (hhi z rfl) hu
      simp only [Option.map_some, hk]
      exact run_sliceBound k u cap _ (by omega) (by omega)
  have hL : (match (lo.map a.eval : Option Value) with | some v => (Instr.sliceBound v u.toNat .sliceB).run P w | none => .ok 0 w) = Result.ok l.toNat w := by
    cases lo with
    | none => simp at hl; simp [← hl]
    | some z =>
      simp at hl
      obtain ⟨k, hk⟩ := natOf_rep (hlo z rfl) hl
      simp only [Option.map_some, hk]
      exact run_sliceBound k l u.toNat _ h0 (by omega)
  cases hi <;> cases lo <;> simp at hH hL <;> simp [Instr.sliceBounds, hH, hL]

theorem does_sliceB (hE : EnvOk P E) (h : RelH G base M w0 hp bl rv w) {t : TypeId} {x : Operand} {lo' hi' : Option Operand} {b k lo hi : Nat} {ρ : Operand → AV} (ho : o.op = .slice t x lo' hi' none) (hx : RepA (cx G hp bl rv w) (a.eval x) (.bsl b k lo hi))
    (hlo : ∀ z, lo' = some z → RepA (cx G hp bl rv w) (a.eval z) (ρ z)) (hhi : ∀ z, hi' = some z → RepA (cx G hp bl rv w) (a.eval z) (ρ z))
    (hr : aSliceB E t b k lo hi (lo'.map ρ) (hi'.map ρ) = some r) (hvc : r.vc) : Does P o a w (Post G base M w0 hp bl rv w r) := by
  unfold aSliceB at hr
  split at hr
  · rename_i e _ _ _ ht
    have hu := (hE.ty _ _ ht).slice
    split at hr
    · rename_i j hj
      split at hr
      · rename_i hk
        split at hr
        · rename_i l u hl hu'
          cases hr
          simp only at hvc
          obtain ⟨h0, h1, h2⟩ := hvc
          have hsz := (hE.ty _ _ hj).sizeOf (P := P) w
          generalize hv : a.eval x = v at hx
          cases hx with
          | @bsl _ B _ _ _ c m A hB hn hc hm hAB hA =>
            have hm' : hi - lo = m := by omega
            rw [hm'] at hu'
            have hb := run_bounds (P := P) (w := w) hlo hhi true m c l u hl hu' hc h0 h1 (by omega)
            refine .val (.slice (if c = l.toNat then A else A.map (·.add (l.toNat * j.size))) (u.toNat - l.toNat) (c - l.toNat)) w ?_ (Post.same h rfl rfl (.bsl hB (by omega) (by omega) (by omega) (fun a ha => ?_) (fun hp => ?_)))
            · simp [execOp, ho, hv, Instr.sliceAt, run_underlying hu, Instr.slice, hb, hsz]
            · split at ha
              · exact hAB a ha
              · obtain ⟨a0, ha0, rfl⟩ := Option.map_eq_some_iff.1 ha
                rw [← hAB a0 ha0]
                unfold Addr.add
                split <;> rfl
            · rw [if_neg (by omega), hA (by omega), hk]
              simp [addr_add, Nat.add_mul]
        · cases hr
      · cases hr
    · cases hr
  · cases hr

theorem does_callB (hE : EnvOk P E) (h : RelH G base M w0 hp bl rv w) (ρ : Operand → AV) {c : Call} {q : Option Res} (ho : o.op = .call c) (hρ : ∀ x ∈ c.operands, RepA (cx G hp bl rv w) (a.eval x) (ρ x))
    (hq : aCallB E ρ (fun i => hp[i]?) c = some q) (hr : q = some r) (hvc : r.vc) : Does P o a w (Post G base M w0 hp bl rv w r) := by
  obtain ⟨callee, args, ts⟩ := c
  unfold aCallB at hq
  split at hq
  · rename_i hc
    simp only at hc
    subst hc
    split at hq
    · rename_i x t hx ht
      obtain rfl : args = #[x] := Array.toList_inj.1 hx
      obtain rfl : ts = #[t] := Array.toList_inj.1 ht
      obtain ⟨⟨b, k, lo, hi⟩, hb, rfl⟩ := Option.map_eq_some_iff.1 hq
      have hrep := hρ x (by simp [Call.operands])
      rw [asB_eq hb] at hrep
      simp only at hr hrep
      split at hr
      · rename_i hty
        cases hr
        have hu := (hE.ty _ _ hty).slice
        generalize hv : a.eval x = v at hrep
        cases hrep with
        | @bsl _ B _ _ _ c m A hB hn hc hm hAB hA =>
          refine .val _ w ?_ (Post.same h rfl rfl (.p (.sc rfl)))
          have hm' : hi - lo = m := by omega
          simp [execOp, ho, resolve, invoke, builtin, Builtin.len_, run_underlying hu, hv, goInt, hm']
      · cases hr
    · cases hq
  · rename_i hc
    simp only at hc
    subst hc
    split at hq
    · rename_i x t hx ht
      obtain rfl : args = #[x] := Array.toList_inj.1 hx
      obtain rfl : ts = #[t] := Array.toList_inj.1 ht
      obtain ⟨⟨b, k, lo, hi⟩, hb, rfl⟩ := Option.map_eq_some_iff.1 hq
      have hrep := hρ x (by simp [Call.operands])
      rw [asB_eq hb] at hrep
      simp only at hr hrep
      unfold aClearB at hr
      split at hr
      · rename_i e _ _ _ hty
        have hu := (hE.ty _ _ hty).slice
        split at hr
        · rename_i j cs hj hbox
          split at hr
          · rename_i hk
            obtain ⟨hk, hkpos⟩ := hk
            cases hr
            simp only at hvc
            obtain ⟨hlohi, hbnd⟩ := hvc
            have hT := hE.ty _ _ hj
            obtain ⟨z, hz, hzc⟩ := hT.zeroV w
            have hzl : j.zero.length = j.size := hT.zlen
            obtain ⟨B, arr, e', h1, h2, h3, h4, _⟩ := h.box b cs hbox
            generalize hv : a.eval x = v at hrep
            cases hrep with
            | @bsl _ B' _ _ _ c m A hB hn hc hm hAB hA =>
              simp only [cx] at hB
              rw [h1] at hB
              cases hB
              have hm' : hi - lo = m := by omega
              rw [hm']
              have hzr := zeroPV_rep (C := cx G hp bl rv w) j.zero hT.zone
              have hrr := reps_rep hzr (by omega) m
              generalize hys : ((List.range (m * j.zero.length)).map fun i => j.zero.toArray[i % j.zero.length]!) = ys at hrr
              have hyl : ys.length = m * k := by rw [← hys]; simp [hzl, hk]
              have hy1 : ∀ u ∈ ys, u.oneCell' = true := by
                intro u hu'
                rw [← hys] at hu'
                obtain ⟨q, _, rfl⟩ := List.mem_map.1 hu'
                have hml : q % j.zero.length < j.zero.length := Nat.mod_lt _ (by omega)
                have : j.zero.toArray[q % j.zero.length]! = j.zero[q % j.zero.length] := by simp [hml]
                rw [this]
                exact hT.zone _ (List.getElem_mem _)
              have hmk : lo * k + m * k = hi * k := by rw [← Nat.add_mul, hn]
              have hrrl : (reps (zeroPV j.zero) m).length = m * k := by rw [← hrr.1, hyl]
              have har : Reps (RepA (cx G hp bl rv w)) (arr.toList.take cs.length) cs := ⟨by simp; omega, fun j v c hv hc => by
                rw [List.getElem?_take] at hv
                split at hv
                · exact (h4 j v c (by simpa using hv) hc).2
                · cases hv⟩
              have ha1 : ∀ u ∈ arr.toList.take cs.length, u.oneCell' = true := by
                intro u hu
                obtain ⟨j, hj⟩ := List.getElem?_of_mem hu
                rw [List.getElem?_take] at hj
                split at hj
                · rename_i hjl
                  exact (h4 j u _ (by simpa using hj) (List.getElem?_eq_getElem hjl)).1
                · cases hj
              have hrun := run_storeCells_at (P := P) B (lo * k) e' ys 0 arr w h2 (by omega) hy1
              rw [Nat.add_zero, hyl, hmk] at hrun
              have hnew : Reps (RepA (cx G hp bl rv w)) ((arr.toList.take cs.length).take (lo * k) ++ ys ++ (arr.toList.take cs.length).drop (hi * k)) (cs.take (lo * k) ++ reps (zeroPV j.zero) m ++ cs.drop (hi * k)) :=
                ((har.take (lo * k)).app hrr).app (har.drop _)
              have hn1 : ∀ u ∈ ((arr.toList.take cs.length).take (lo * k) ++ ys ++ (arr.toList.take cs.length).drop (hi * k)), u.oneCell' = true := by
                intro u hu
                simp only [List.mem_append] at hu
                rcases hu with (hu | hu) | hu
                · exact ha1 u (List.mem_of_mem_take hu)
                · exact hy1 u hu
                · exact ha1 u (List.mem_of_mem_drop hu)
              have hcl : (cs.take (lo * k) ++ reps (zeroPV j.zero) m ++ cs.drop (hi * k)).length = cs.length := by
                simp [hrrl]; omega
              have hat : ∀ (j : Nat), j < cs.length → (arr.toList.take (lo * k) ++ ys ++ arr.toList.drop (hi * k))[j]? = ((arr.toList.take cs.length).take (lo * k) ++ ys ++ (arr.toList.take cs.length).drop (hi * k))[j]? := by
                intro j hj
                have e1 : (arr.toList.take cs.length).take (lo * k) = arr.toList.take (lo * k) := by rw [List.take_take]; congr 1; omega
                rw [e1]
                have hl1 : (arr.toList.take (lo * k) ++ ys).length = hi * k := by rw [List.length_append, hyl]; simp; omega
                rcases Nat.lt_or_ge j (hi * k) with hlt | hge
                · exact (List.getElem?_append_left (by omega)).trans (List.getElem?_append_left (by omega)).symm
                · refine (List.getElem?_append_right (by omega)).trans (Eq.trans ?_ (List.getElem?_append_right (by omega)).symm)
                  rw [List.getElem?_drop, List.getElem?_drop, List.getElem?_take, if_pos (by omega)]
              have hst := h.store (arr' := (arr.toList.take (lo * k) ++ ys ++ arr.toList.drop (hi * k)).toArray) (cs' := cs.take (lo * k) ++ reps (zeroPV j.zero) m ++ cs.drop (hi * k)) hbox h1 h2 (by rw [hcl]; simp; omega) (by
                  intro c hc
                  simp only [List.mem_append] at hc
                  rcases hc with (hc | hc) | hc
                  · exact h.ng b cs hbox c (List.mem_of_mem_take hc)
                  · have hz0 : ∀ (zs : List Value), ∀ c ∈ zeroPV zs, c.ng = true := by
                      intro zs
                      induction zs with
                      | nil => intro c hc; simp [zeroPV] at hc
                      | cons z zs ih =>
                        intro c hc
                        unfold zeroPV at hc
                        split at hc
                        · rename_i h0; cases h0
                        · rename_i h0; cases h0
                          rcases List.mem_cons.1 hc with rfl | hc
                          · rfl
                          · exact ih c hc
                        · rename_i h0; cases h0
                          rcases List.mem_cons.1 hc with rfl | hc
                          · rfl
                          · exact ih c hc
                    have : ∀ (n : Nat), ∀ c ∈ reps (zeroPV j.zero) n, c.ng = true := by
                      intro n
                      induction n with
                      | zero => intro c hc; simp [reps] at hc
                      | succ n ih =>
                        intro c hc
                        simp only [reps, List.mem_append] at hc
                        rcases hc with hc | hc
                        · exact hz0 _ c hc
                        · exact ih c hc
                    exact this m c hc
                  · exact h.ng b cs hbox c (List.mem_of_mem_drop hc))
                (fun j v c hv hc => by
                  have hj : j < cs.length := by rw [← hcl]; exact (List.getElem?_eq_some_iff.1 hc).1
                  have hv' := hat j hj
                  rw [← List.getElem?_toArray, hv] at hv'
                  exact ⟨hn1 v (List.mem_of_getElem? hv'.symm), hnew.2 j v c hv'.symm hc⟩)
              have hzz : (Builtin.zeroCells z.cells m).toList = ys := by
                rw [← hys]
                obtain ⟨zl, hzl'⟩ : ∃ zl, z.cells = ⟨zl⟩ := ⟨z.cells.toList, rfl⟩
                rw [hzl'] at hzc ⊢
                simp at hzc
                subst hzc
                simp [Builtin.zeroCells]
              by_cases hm0 : m = 0
              · subst hm0
                obtain rfl : lo = hi := by omega
                have hcs : cs.take (lo * k) ++ reps (zeroPV j.zero) 0 ++ cs.drop (lo * k) = cs := by simp [reps]
                rw [hcs]
                refine .val (.tuple #[]) w ?_ ⟨bl, rv, ?_, ?_, .p (.tup (vs := []) rfl (by simp))⟩
                · cases A <;> simp [execOp, ho, resolve, invoke, builtin, Builtin.clear_, run_underlying hu, hv]
                · have hset : hp.set b (.box cs) = hp := by
                    refine List.ext_getElem? fun i => ?_
                    by_cases hbi : b = i
                    · subst hbi
                      have hlt := (List.getElem?_eq_some_iff.1 hbox).1
                      simp only at hbox
                      rw [hbox]; simp [hlt]
                    · rw [List.getElem?_set_ne hbi]
                  simp only [Res.app, setMany, List.append_nil, hset]
                  exact h
                · have hset : hp.set b (.box cs) = hp := by
                    refine List.ext_getElem? fun i => ?_
                    by_cases hbi : b = i
                    · subst hbi
                      have hlt := (List.getElem?_eq_some_iff.1 hbox).1
                      simp only at hbox
                      rw [hbox]; simp [hlt]
                    · rw [List.getElem?_set_ne hbi]
                  simp only [Res.app, setMany, List.append_nil, hset]
                  exact .refl _
              · obtain rfl := hA (by omega)
                obtain ⟨m', rfl⟩ : ∃ m', m = m' + 1 := ⟨m - 1, by omega⟩
                refine .val (.tuple #[]) (w.setRow B (arr.toList.take (lo * k) ++ ys ++ arr.toList.drop (hi * k)).toArray) ?_ ⟨bl, rv, ?_, ?_, .p (.tup (vs := []) rfl (by simp))⟩
                · simp [execOp, ho, resolve, invoke, builtin, Builtin.clear_, run_underlying hu, hv, hz, hzz, hrun]
                · simpa [Res.app, setMany] using hst.1
                · simpa [Res.app, setMany] using hst.2
          · cases hr
        · cases hr
      · cases hr
    · cases hq
  · cases hq

/-- **Any operation that the evaluator knows does what it says.** -/
theorem aop_does (hE : EnvOk P E) (h : RelH G base M w0 hp bl rv w) (ρ : Operand → AV) (hρ : ∀ x ∈ o.op.operands, RepA (cx G hp bl rv w) (a.eval x) (ρ x))
    (hr : aop E ρ hp.length (fun i => hp[i]?) o.op = some r) (hvc : r.vc) : Does P o a w (Post G base M w0 hp bl rv w r) := by
  unfold aop at hr
  split at hr
  · rename_i q hx
    subst hr
    generalize hop : o.op = op at *
    unfold aopX at hx
    split at hx
    · obtain ⟨r', hr', he⟩ := Option.map_eq_some_iff.1 hx
      cases he
      exact does_binX hE h hop (hρ _ (by simp [Op.operands])) (hρ _ (by simp [Op.operands])) hr' hvc
    · split at hx
      · exact does_convX hE h hop (hρ _ (by simp [Op.operands])) (Option.some.inj hx) hvc
      · cases hx
    · rename_i t x i
      obtain ⟨⟨b, k, lo, hi⟩, hb, hq⟩ := Option.map_eq_some_iff.1 hx
      have hrep := hρ x (by simp [Op.operands])
      rw [asB_eq hb] at hrep
      exact does_indexB hE h hop hrep (hρ _ (by simp [Op.operands])) hq hvc
    · rename_i t x lo' hi'
      obtain ⟨⟨b, k, lo, hi⟩, hb, hq⟩ := Option.map_eq_some_iff.1 hx
      have hrep := hρ x (by simp [Op.operands])
      rw [asB_eq hb] at hrep
      exact does_sliceB hE h hop hrep (fun z hz => hρ z (by subst hz; simp [Op.operands])) (fun z hz => hρ z (by subst hz; simp [Op.operands])) hq hvc
    · rename_i c
      exact does_callB hE h ρ hop (fun x hx => hρ x (by simpa [Op.operands] using hx)) hx rfl hvc
    · cases hx
  · exact aop0_does hE h ρ hρ hr hvc

end
end Go.Proofs.Av
