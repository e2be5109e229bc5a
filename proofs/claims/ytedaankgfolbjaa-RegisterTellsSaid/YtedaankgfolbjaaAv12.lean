/- What an operation hangs on. -/
import Derived.Test.YtedaankgfolbjaaAv11b
set_option linter.unusedVariables false
set_option linter.unusedSimpArgs false
namespace Go.Proofs.Av
open Go.RowKit

section
variable {h h' : Nat → Option HObj}

theorem demC_frame (x : AV) (hf : ∀ i ∈ rdC x, h' i = h i) : demC h' x = demC h x := by
  cases x <;> simp [demC]
  rw [hf _ (by simp [rdC])]

theorem demCs_frame : ∀ (l : List AV), (∀ i ∈ l.flatMap rdC, h' i = h i) → demCs h' l = demCs h l
  | [], _ => rfl
  | x :: l, hf => by
    simp only [demCs]
    rw [demC_frame x (fun i hi => hf i (by simp [hi])), demCs_frame l (fun i hi => hf i (by simp at hi ⊢; exact .inr hi))]

theorem dem_frame (x : AV) (hf : ∀ i ∈ rdOf x, h' i = h i) : dem h' x = dem h x := by
  cases x
  case agg cs => simp only [dem]; rw [demCs_frame cs (by simpa [rdOf] using hf)]
  case own r u => simp only [dem]; exact demC_frame _ (by simpa [rdOf, rdC] using hf)
  all_goals rfl

theorem demAll_frame : ∀ (l : List AV), (∀ i ∈ l.flatMap rdOf, h' i = h i) → demAll h' l = demAll h l
  | [], _ => rfl
  | x :: l, hf => by
    simp only [demAll]
    rw [dem_frame x (fun i hi => hf i (by simp [hi])), demAll_frame l (fun i hi => hf i (by simp at hi ⊢; exact .inr hi))]

theorem asSl_frame (x : AV) (hf : ∀ i ∈ rdC x, h' i = h i) : asSl h' x = asSl h x := by
  unfold asSl
  rw [demC_frame x hf]
end

section
variable {P : Program} {E : Env} {h h' : Nat → Option HObj} {len len' : Nat} {r : Res}

theorem aLoad_frame {t : TypeId} {x : AV} (hr : aLoad E h t x = some r) (hf : ∀ i ∈ r.rd, h' i = h i) : aLoad E h' t x = some r := by
  cases x <;> simp only [aLoad] at hr ⊢
  case ptr b off =>
    have : h' b = h b := by
      refine hf b ?_
      split at hr
      · split at hr <;> (simp at hr; subst hr; simp)
      · cases hr
    rw [this]; exact hr
  case elt cs => exact hr
  all_goals cases hr

theorem aStore_frame {t : TypeId} {x y : AV} (hr : aStore E h t x y = some r) (hf : ∀ i ∈ r.rd, h' i = h i) : aStore E h' t x y = some r := by
  cases x <;> simp only [aStore] at hr ⊢
  case ptr b off =>
    have : h' b = h b := by
      refine hf b ?_
      split at hr
      · split at hr
        · simp at hr; subst hr; simp
        · cases hr
      · cases hr
    rw [this]; exact hr
  all_goals cases hr

theorem aBuildSlice_frame {t : TypeId} {n : Nat} {ps : List (Nat × AV)} (hr : aBuildSlice E h t n ps = some r) (hf : ∀ i ∈ r.rd, h' i = h i) : aBuildSlice E h' t n ps = some r := by
  unfold aBuildSlice at hr ⊢
  split at hr
  · split at hr
    · split at hr
      · rename_i hc
        split at hr
        · rename_i cs hcs
          obtain ⟨xs, hxs, rfl⟩ := Option.map_eq_some_iff.1 hr
          rw [demCs_frame cs (by simpa using hf), hxs, if_pos hc]
          rfl
        · cases hr
      · cases hr
    · cases hr
  · cases hr

theorem aSlice_frame {t : TypeId} {x : AV} {lo hi : Option AV} (hr : aSlice E h t x lo hi = some r) (hf : ∀ i ∈ r.rd, h' i = h i) : aSlice E h' t x lo hi = some r := by
  unfold aSlice at hr ⊢
  split at hr
  · exact hr
  · have : asSl h' x = asSl h x := by
      split at hr
      · split at hr
        · simp at hr; subst hr; exact asSl_frame x hf
        · cases hr
      · cases hr
    rw [this]; exact hr
  · cases hr

theorem aIndexAddr_frame {t : TypeId} {x ix : AV} (hr : aIndexAddr E h t x ix = some r) (hf : ∀ i ∈ r.rd, h' i = h i) : aIndexAddr E h' t x ix = some r := by
  unfold aIndexAddr at hr ⊢
  split at hr
  · exact hr
  · have : asSl h' x = asSl h x := by
      split at hr
      · simp at hr; subst hr; exact asSl_frame x hf
      · cases hr
    rw [this]; exact hr
  · cases hr

theorem aLen_frame {t : TypeId} {x : AV} (hr : aLen E h t x = some r) (hf : ∀ i ∈ r.rd, h' i = h i) : aLen E h' t x = some r := by
  unfold aLen at hr ⊢
  split at hr
  · exact hr
  · have : asSl h' x = asSl h x := by
      split at hr
      · simp at hr; subst hr; exact asSl_frame x hf
      · cases hr
    rw [this]; exact hr
  · exact hr
  · cases hr

theorem aAppend_frame {t : TypeId} {x y : AV} (hr : aAppend E h t x y = some r) (hf : ∀ i ∈ r.rd, h' i = h i) : aAppend E h' t x y = some r := by
  unfold aAppend at hr ⊢
  split at hr
  · split at hr
    · rename_i i q u k' new hi hs
      split at hr
      · rename_i e' k ver es hrow
        split at hr
        · rename_i huv
          simp at hr; subst hr
          simp only at hf
          simp only [hi]
          rw [asSl_frame y (fun j hj => hf j (by simp [hj])), hs]
          simp only
          rw [hf q (by simp), hrow]
          simp only
          rw [if_pos huv]
        · cases hr
      · cases hr
    · cases hr
  · cases hr

theorem aEq_frame {op : BinOp} {t : TypeId} {x y : AV} (hr : aEq E h op t x y = some r) (hf : ∀ i ∈ r.rd, h' i = h i) : aEq E h' op t x y = some r := by
  unfold aEq at hr ⊢
  split at hr
  · rename_i hT
    have hd : dem h' x = dem h x ∧ dem h' y = dem h y := by
      split at hr
      · split at hr
        · split at hr
          · simp at hr; subst hr
            exact ⟨dem_frame x (fun i hi => hf i (by simp [hi])), dem_frame y (fun i hi => hf i (by simp [hi]))⟩
          · simp at hr; subst hr
            exact ⟨dem_frame x (fun i hi => hf i (by simp [hi])), dem_frame y (fun i hi => hf i (by simp [hi]))⟩
          · cases hr
        · cases hr
      · cases hr
    rw [if_pos hT, hd.1, hd.2]
    exact hr
  · cases hr

theorem aBin_frame {op : BinOp} {t : TypeId} {x y : AV} (hr : aBin E h op t x y = some r) (hf : ∀ i ∈ r.rd, h' i = h i) : aBin E h' op t x y = some r := by
  unfold aBin at hr ⊢
  split at hr
  · exact hr
  · exact hr
  · exact hr
  · exact hr
  · exact hr
  · exact aEq_frame hr hf

theorem aCall_frame (hE : EnvOk P E) {f : AV} {xs : List AV} (hr : aCall E len h f xs = some r) (hf : ∀ i ∈ r.rd, h' i = h i) (hl : r.al = true → len' = len) : aCall E len' h' f xs = some r := by
  cases f <;> simp only [aCall] at hr ⊢
  case fn g caps =>
    cases hp : E.pure g with
    | some s =>
      simp only [hp] at hr ⊢
      split at hr
      · rename_i ys hys
        cases hr
        rw [demAll_frame (xs ++ caps) (by simpa using hf), hys]
      · cases hr
    | none =>
      simp only [hp] at hr ⊢
      cases hh : E.heap g with
      | some s =>
        simp only [hh] at hr ⊢
        exact (hE.heap g s hh).2.2.frame _ _ _ _ _ _ hr hf hl
      | none => simp only [hh] at hr; cases hr
  all_goals cases hr

theorem aop0_frame (hE : EnvOk P E) {ρ ρ' : Operand → AV} {op : Op} (hr : aop0 E ρ len h op = some r) (hρ : ∀ x ∈ op.operands, ρ' x = ρ x) (hf : ∀ i ∈ r.rd, h' i = h i) (hl : r.al = true → len' = len) :
    aop0 E ρ' len' h' op = some r := by
  have hmap : ∀ (l : List Operand), (∀ x ∈ l, x ∈ op.operands) → l.map ρ' = l.map ρ := fun l hx => List.map_congr_left fun x hxl => hρ x (hx x hxl)
  have hparts : ∀ (l : List (Nat × Operand)), (∀ q ∈ l, q.2 ∈ op.operands) → (l.map fun q => (q.1, ρ' q.2)) = l.map fun q => (q.1, ρ q.2) := fun l hx => List.map_congr_left fun q hq => by rw [hρ _ (hx q hq)]
  unfold aop0 at hr ⊢
  split at hr
  · rw [← hr, hρ _ (by simp [Op.operands])]
  · split at hr
    · rename_i hn
      rw [if_pos hn]
      simp at hr; subst hr
      rw [hl rfl]
    · rename_i hn
      rw [if_neg hn, ← hr, hρ _ (by simp [Op.operands])]
  · rw [← hr, hρ _ (by simp [Op.operands]), hρ _ (by simp [Op.operands]), hρ _ (by simp [Op.operands])]
  · unfold aAlloc at hr ⊢
    split at hr
    · simp at hr; subst hr
      rw [hl rfl]
    · cases hr
  · rw [hρ _ (by simp [Op.operands])]
    split at hr
    · rename_i hk
      rw [if_pos hk]
      simp at hr; subst hr
      rw [hl rfl]
    · cases hr
  · rename_i t parts
    rw [← hr, hparts _ (fun q hq => by simp [Op.operands]; exact ⟨q.1, by simpa using hq⟩)]
  · rename_i t n parts
    split at hr
    · rename_i hn
      rw [if_pos hn]
      unfold aEmpty at hr ⊢
      split at hr
      · split at hr
        · split at hr
          · rename_i hc
            rw [if_pos hc]
            simp at hr; subst hr
            rw [hl rfl]
          · cases hr
        · cases hr
      · cases hr
    rename_i hn
    rw [if_neg hn, hparts _ (fun q hq => by simp [Op.operands]; exact ⟨q.1, by simpa using hq⟩)]
    exact aBuildSlice_frame hr hf
  · rw [hρ _ (by simp [Op.operands])]; exact aLoad_frame hr hf
  · rw [hρ _ (by simp [Op.operands]), hρ _ (by simp [Op.operands])]; exact aStore_frame hr hf
  · rw [← hr, hρ _ (by simp [Op.operands])]
  · rw [hρ _ (by simp [Op.operands]), hρ _ (by simp [Op.operands])]; exact aBin_frame hr hf
  · rw [← hr, hρ _ (by simp [Op.operands])]
  · rw [← hr, hρ _ (by simp [Op.operands])]
  · rename_i t x lo hi
    have e1 : lo.map ρ' = lo.map ρ := by cases lo <;> simp; exact hρ _ (by simp [Op.operands])
    have e2 : hi.map ρ' = hi.map ρ := by cases hi <;> simp; exact hρ _ (by simp [Op.operands])
    rw [hρ _ (by simp [Op.operands]), e1, e2]
    exact aSlice_frame hr hf
  · rw [← hr, hρ _ (by simp [Op.operands])]
  · rw [← hr, hρ _ (by simp [Op.operands])]
  · rw [hρ _ (by simp [Op.operands]), hρ _ (by simp [Op.operands])]; exact aIndexAddr_frame hr hf
  · rw [← hr, hρ _ (by simp [Op.operands]), hρ _ (by simp [Op.operands])]
  · rw [← hr, hρ _ (by simp [Op.operands])]
  · rename_i fn first caps
    rw [← hr, hmap _ (fun x hx => by simp [Op.operands]; exact .inr (by simpa using hx))]
  · rename_i c
    obtain ⟨callee, args, ts⟩ := c
    have hm : args.toList.map ρ' = args.toList.map ρ := hmap _ (fun x hx => by simp [Op.operands, Call.operands]; exact .inr (by simpa using hx))
    unfold aopCall at hr ⊢
    split at hr
    · rename_i hc
      simp only at hc
      subst hc
      simp only at hr ⊢
      split at hr
      · rename_i x t hx ht
        have hxo : ρ' x = ρ x := hρ x (by simp [Op.operands, Call.operands]; rw [← Array.mem_toList_iff, hx]; simp)
        rw [hxo]
        exact aLen_frame hr hf
      · cases hr
    · rename_i hc
      simp only at hc
      subst hc
      simp only at hr ⊢
      rw [hm]; exact hr
    · rename_i hc
      simp only at hc
      subst hc
      simp only at hr ⊢
      rw [hm]; exact hr
    · rename_i hc
      simp only at hc
      subst hc
      simp only at hr ⊢
      split at hr
      · rename_i x y t u hx ht
        have hxo : ρ' x = ρ x := hρ x (by simp [Op.operands, Call.operands]; rw [← Array.mem_toList_iff, hx]; simp)
        have hyo : ρ' y = ρ y := hρ y (by simp [Op.operands, Call.operands]; rw [← Array.mem_toList_iff, hx]; simp)
        rw [hxo, hyo]
        split at hr
        · rename_i htu
          rw [if_pos htu]
          exact aAppend_frame hr hf
        · cases hr
      · cases hr
    · rename_i f hc
      simp only at hc
      subst hc
      simp only at hr ⊢
      rw [hm, hρ f (by simp [Op.operands, Call.operands])]
      exact aCall_frame hE hr hf hl
    · cases hr
  · cases hr

/-- What an operation turns is there; what makes something hangs on how much there is. -/
theorem aop0_wf (hE : EnvOk P E) {ρ : Operand → AV} {op : Op} (hr : aop0 E ρ len h op = some r) : (∀ q ∈ r.wr, (h q.1).isSome = true ∧ q.1 ∈ r.rd) ∧ (r.nw ≠ [] → r.al = true) := by
  have triv : r.wr = [] → r.nw = [] → (∀ q ∈ r.wr, (h q.1).isSome = true ∧ q.1 ∈ r.rd) ∧ (r.nw ≠ [] → r.al = true) := fun h1 h2 => by simp [h1, h2]
  unfold aop0 at hr
  split at hr
  · simp at hr; subst hr; exact triv rfl rfl
  · split at hr
    · simp at hr; subst hr; simp
    · simp at hr; subst hr; exact triv rfl rfl
  · unfold aPick at hr; split at hr
    · simp at hr; subst hr; exact triv rfl rfl
    · cases hr
  · unfold aAlloc at hr; split at hr
    · simp at hr; subst hr; simp
    · cases hr
  · split at hr
    · simp at hr; subst hr; simp
    · cases hr
  · unfold aBuild at hr; split at hr
    · split at hr
      · obtain ⟨cs, hcs, rfl⟩ := Option.map_eq_some_iff.1 hr; exact triv rfl rfl
      · cases hr
    · cases hr
  · split at hr
    · unfold aEmpty at hr
      split at hr
      · split at hr
        · split at hr
          · simp at hr; subst hr; simp
          · cases hr
        · cases hr
      · cases hr
    unfold aBuildSlice at hr; split at hr
    · split at hr
      · split at hr
        · split at hr
          · obtain ⟨cs, hcs, rfl⟩ := Option.map_eq_some_iff.1 hr; exact triv rfl rfl
          · cases hr
        · cases hr
      · cases hr
    · cases hr
  · unfold aLoad at hr; split at hr
    · split at hr
      · split at hr <;> (simp at hr; subst hr; exact triv rfl rfl)
      · cases hr
    · split at hr
      · split at hr <;> (simp at hr; subst hr; exact triv rfl rfl)
      · cases hr
    · cases hr
  · unfold aStore at hr; split at hr
    · split at hr
      · rename_i hb _
        split at hr
        · simp at hr; subst hr
          simp [hb]
        · cases hr
      · cases hr
    · cases hr
  · unfold aNil at hr; split at hr <;> first | (simp at hr; subst hr; exact triv rfl rfl) | cases hr
  · unfold aBin at hr; split at hr
    · simp at hr; subst hr; exact triv rfl rfl
    · split at hr
      · obtain ⟨v, hv, rfl⟩ := Option.map_eq_some_iff.1 hr; exact triv rfl rfl
      · cases hr
    · obtain ⟨v, hv, rfl⟩ := Option.map_eq_some_iff.1 hr; exact triv rfl rfl
    · split at hr
      · simp at hr; subst hr; exact triv rfl rfl
      · cases hr
    · split at hr
      · simp at hr; subst hr; exact triv rfl rfl
      · cases hr
    · unfold aEq at hr
      split at hr
      · split at hr
        · split at hr
          · split at hr <;> first | (simp at hr; subst hr; exact triv rfl rfl) | cases hr
          · cases hr
        · cases hr
      · cases hr
  · unfold aUn at hr; split at hr <;> first | (simp at hr; subst hr; exact triv rfl rfl) | cases hr
  · unfold aConv at hr; split at hr
    · split at hr
      · simp at hr; subst hr; exact triv rfl rfl
      · cases hr
    · cases hr
  · unfold aSlice at hr; split at hr
    · split at hr
      · split at hr
        · simp at hr; subst hr; exact triv rfl rfl
        · cases hr
      · cases hr
    · split at hr
      · split at hr
        · simp at hr; subst hr; exact triv rfl rfl
        · cases hr
      · cases hr
    · cases hr
  · unfold aFieldAddr at hr; split at hr
    · split at hr
      · split at hr
        · split at hr
          · split at hr <;> first | (simp at hr; subst hr; exact triv rfl rfl) | cases hr
          · cases hr
        · cases hr
      · cases hr
    · cases hr
  · unfold aField at hr; split at hr
    · split at hr
      · split at hr
        · unfold partA at hr; split at hr
          · split at hr <;> (simp at hr; subst hr; exact triv rfl rfl)
          · cases hr
        · cases hr
      · cases hr
    · cases hr
  · unfold aIndexAddr at hr; split at hr
    · split at hr <;> first | (simp at hr; subst hr; exact triv rfl rfl) | cases hr
    · split at hr
      · simp at hr; subst hr; exact triv rfl rfl
      · cases hr
    · cases hr
  · unfold aIndex at hr; split at hr
    · split at hr
      · split at hr
        · split at hr
          · rename_i r' hr'
            simp at hr; subst hr
            unfold partA at hr'; split at hr'
            · split at hr' <;> (simp at hr'; subst hr'; exact triv rfl rfl)
            · cases hr'
          · cases hr
        · cases hr
      · cases hr
    · split at hr
      · simp at hr; subst hr; exact triv rfl rfl
      · cases hr
    · cases hr
  · unfold aExtract at hr; split at hr
    · obtain ⟨v, hv, rfl⟩ := Option.map_eq_some_iff.1 hr; exact triv rfl rfl
    · obtain ⟨v, hv, rfl⟩ := Option.map_eq_some_iff.1 hr; exact triv rfl rfl
    · cases hr
  · unfold aMakeFunc at hr; split at hr
    · simp at hr; subst hr; exact triv rfl rfl
    · cases hr
  · rename_i c
    unfold aopCall at hr; split at hr
    · split at hr
      · unfold aLen at hr; split at hr
        · split at hr
          · simp at hr; subst hr; exact triv rfl rfl
          · cases hr
        · split at hr
          · simp at hr; subst hr; exact triv rfl rfl
          · cases hr
        · simp at hr; subst hr; exact triv rfl rfl
        · cases hr
      · cases hr
    · unfold aMinMax at hr; split at hr
      · split at hr
        · simp at hr; subst hr; exact triv rfl rfl
        · cases hr
      · cases hr
    · unfold aMinMax at hr; split at hr
      · split at hr
        · simp at hr; subst hr; exact triv rfl rfl
        · cases hr
      · cases hr
    · split at hr
      · split at hr
        · unfold aAppend at hr; split at hr
          · split at hr
            · split at hr
              · rename_i hrow
                split at hr
                · simp at hr; subst hr
                  simp [hrow]
                · cases hr
              · cases hr
            · cases hr
          · cases hr
        · cases hr
      · cases hr
    · unfold aCall at hr; split at hr
      · split at hr
        · split at hr
          · cases hr; exact triv rfl rfl
          · cases hr
        · split at hr
          · rename_i s hs
            have := (hE.heap _ s hs).2.2
            exact ⟨this.wr _ _ _ _ hr, this.nw _ _ _ _ hr⟩
          · cases hr
      · cases hr
    · cases hr
  · cases hr


theorem numsOf_len : ∀ {es : List (List PV)} {ns : List Int}, numsOf es = some ns → ns.length = es.length
  | [], ns, h => by simp [numsOf] at h; subst h; rfl
  | e :: es, ns, h => by
    unfold numsOf at h
    split at h
    · rename_i h1; cases h1
    · rename_i h1; cases h1
      obtain ⟨m, hm, rfl⟩ := Option.map_eq_some_iff.1 h
      simp [numsOf_len hm]
    · cases h

theorem aConvX_frame {s d : TypeId} {x : AV} (hr : aConvX E h s d x = some r) (hf : ∀ i ∈ r.rd, h' i = h i) : aConvX E h' s d x = some r := by
  unfold aConvX at hr ⊢
  split at hr
  · exact hr
  · split at hr
    · rename_i he ha
      obtain ⟨ns, hns, rfl⟩ := Option.map_eq_some_iff.1 hr
      rw [asSl_frame x hf]
      simp only [he, ha, hns]
      rfl
    · cases hr
  · exact hr
  · cases hr

theorem aClearB_frame {t : TypeId} {b k lo hi : Nat} (hr : aClearB E h t b k lo hi = some r) (hf : ∀ i ∈ r.rd, h' i = h i) : aClearB E h' t b k lo hi = some r := by
  unfold aClearB at hr ⊢
  split at hr
  · split at hr
    · rename_i j cs hj hb
      split at hr
      · rename_i hk
        cases hr
        have := hf b (by simp)
        simp only [this, hb, hj]
        rw [if_pos hk]
      · cases hr
    · cases hr
  · cases hr

theorem aCallB_eq {ρ ρ' : Operand → AV} {c : Call} (hρ : ∀ x ∈ c.operands, ρ' x = ρ x) : (aCallB E ρ h c = none → aCallB E ρ' h' c = none) ∧ ∀ r, aCallB E ρ h c = some (some r) → (∀ i ∈ r.rd, h' i = h i) → aCallB E ρ' h' c = some (some r) := by
  obtain ⟨callee, args, ts⟩ := c
  unfold aCallB
  constructor
  · intro hr
    split at hr
    · rename_i hc
      simp only at hc
      subst hc
      simp only
      split at hr
      · rename_i x t hx ht
        simp only at hx ht
        simp only [hx, ht]
        rw [hρ x (by simp [Call.operands]; rw [← Array.mem_toList_iff, hx]; simp)]
        have := Option.map_eq_none_iff.1 hr
        rw [this]; rfl
      · rfl
    · rename_i hc
      simp only at hc
      subst hc
      simp only
      split at hr
      · rename_i x t hx ht
        simp only at hx ht
        simp only [hx, ht]
        rw [hρ x (by simp [Call.operands]; rw [← Array.mem_toList_iff, hx]; simp)]
        have := Option.map_eq_none_iff.1 hr
        rw [this]; rfl
      · rfl
    · rfl
  · intro r hr hf
    split at hr
    · rename_i hc
      simp only at hc
      subst hc
      simp only at hr ⊢
      split at hr
      · rename_i x t hx ht
        rw [hρ x (by simp [Call.operands]; rw [← Array.mem_toList_iff, hx]; simp)]
        exact hr
      · cases hr
    · rename_i hc
      simp only at hc
      subst hc
      simp only at hr ⊢
      split at hr
      · rename_i x t hx ht
        rw [hρ x (by simp [Call.operands]; rw [← Array.mem_toList_iff, hx]; simp)]
        obtain ⟨q, hq, he⟩ := Option.map_eq_some_iff.1 hr
        rw [hq]
        simp only [Option.map_some]
        rw [aClearB_frame he hf]
      · cases hr
    · cases hr

theorem aopX_frame {ρ ρ' : Operand → AV} {op : Op} (hρ : ∀ x ∈ op.operands, ρ' x = ρ x) : (aopX E ρ h op = none → aopX E ρ' h' op = none) ∧ ∀ r, aopX E ρ h op = some (some r) → (∀ i ∈ r.rd, h' i = h i) → aopX E ρ' h' op = some (some r) := by
  unfold aopX
  constructor
  · intro hr
    split at hr
    · rw [hρ _ (by simp [Op.operands]), hρ _ (by simp [Op.operands])]; exact hr
    · split at hr
      · cases hr
      · rename_i hc
        exact if_neg hc
    · rename_i t x i
      have := Option.map_eq_none_iff.1 hr
      rw [hρ x (by simp [Op.operands]), this]; rfl
    · rename_i t x lo hi
      have := Option.map_eq_none_iff.1 hr
      rw [hρ x (by simp [Op.operands]), this]; rfl
    · rename_i c
      exact (aCallB_eq (fun x hx => hρ x (by simpa [Op.operands] using hx))).1 hr
    · rfl
  · intro r hr hf
    split at hr
    · rw [hρ _ (by simp [Op.operands]), hρ _ (by simp [Op.operands])]; exact hr
    · split at hr
      · rename_i hc
        rw [if_pos hc, hρ _ (by simp [Op.operands])]
        rw [aConvX_frame (Option.some.inj hr) hf]
      · cases hr
    · rw [hρ _ (by simp [Op.operands]), hρ _ (by simp [Op.operands])]; exact hr
    · rename_i t x lo hi
      have e1 : lo.map ρ' = lo.map ρ := by cases lo <;> simp; exact hρ _ (by simp [Op.operands])
      have e2 : hi.map ρ' = hi.map ρ := by cases hi <;> simp; exact hρ _ (by simp [Op.operands])
      rw [hρ _ (by simp [Op.operands]), e1, e2]
      exact hr
    · rename_i c
      exact (aCallB_eq (fun x hx => hρ x (by simpa [Op.operands] using hx))).2 r hr hf
    · cases hr

theorem aop_frame (hE : EnvOk P E) {ρ ρ' : Operand → AV} {op : Op} (hr : aop E ρ len h op = some r) (hρ : ∀ x ∈ op.operands, ρ' x = ρ x) (hf : ∀ i ∈ r.rd, h' i = h i) (hl : r.al = true → len' = len) :
    aop E ρ' len' h' op = some r := by
  unfold aop at hr ⊢
  cases hx : aopX E ρ h op with
  | none =>
    rw [hx] at hr
    rw [(aopX_frame (E := E) hρ).1 hx]
    exact aop0_frame hE hr hρ hf hl
  | some q =>
    rw [hx] at hr
    simp only at hr
    subst hr
    rw [(aopX_frame (E := E) hρ).2 r hx hf]

theorem aop_wf (hE : EnvOk P E) {ρ : Operand → AV} {op : Op} (hr : aop E ρ len h op = some r) : (∀ q ∈ r.wr, (h q.1).isSome = true ∧ q.1 ∈ r.rd) ∧ (r.nw ≠ [] → r.al = true) := by
  have triv : r.wr = [] → r.nw = [] → (∀ q ∈ r.wr, (h q.1).isSome = true ∧ q.1 ∈ r.rd) ∧ (r.nw ≠ [] → r.al = true) := fun h1 h2 => by simp [h1, h2]
  unfold aop at hr
  split at hr
  · rename_i q hx
    subst hr
    unfold aopX at hx
    split at hx
    · obtain ⟨r', hr', he⟩ := Option.map_eq_some_iff.1 hx
      cases he
      unfold aBinX at hr'
      split at hr'
      · cases hr'; exact triv rfl rfl
      · cases hr'; exact triv rfl rfl
      · split at hr'
        · cases hr'; exact triv rfl rfl
        · cases hr'
      · split at hr'
        · cases hr'; exact triv rfl rfl
        · cases hr'
      · split at hr'
        · cases hr'; exact triv rfl rfl
        · cases hr'
      · split at hr'
        · cases hr'; exact triv rfl rfl
        · cases hr'
      · split at hr'
        · cases hr'; exact triv rfl rfl
        · cases hr'
      · split at hr'
        · cases hr'; exact triv rfl rfl
        · cases hr'
      · cases hr'
    · split at hx
      · have hr' := Option.some.inj hx
        unfold aConvX at hr'
        split at hr'
        · split at hr'
          · cases hr'; exact triv rfl rfl
          · cases hr'
        · split at hr'
          · obtain ⟨ns, hns, rfl⟩ := Option.map_eq_some_iff.1 hr'; exact triv rfl rfl
          · cases hr'
        · split at hr'
          · cases hr'; exact triv rfl rfl
          · cases hr'
        · cases hr'
      · cases hx
    · obtain ⟨q, hq, he⟩ := Option.map_eq_some_iff.1 hx
      unfold aIndexB at he
      split at he
      · split at he
        · split at he
          · cases he; exact triv rfl rfl
          · cases he
        · cases he
      · cases he
    · obtain ⟨q, hq, he⟩ := Option.map_eq_some_iff.1 hx
      unfold aSliceB at he
      split at he
      · split at he
        · split at he
          · split at he
            · cases he; exact triv rfl rfl
            · cases he
          · cases he
        · cases he
      · cases he
    · rename_i c
      unfold aCallB at hx
      split at hx
      · split at hx
        · obtain ⟨q, hq, he⟩ := Option.map_eq_some_iff.1 hx
          split at he
          · cases he; exact triv rfl rfl
          · cases he
        · cases hx
      · split at hx
        · obtain ⟨q, hq, he⟩ := Option.map_eq_some_iff.1 hx
          unfold aClearB at he
          split at he
          · split at he
            · rename_i hb
              split at he
              · cases he
                simp [hb]
              · cases he
            · cases he
          · cases he
        · cases hx
      · cases hx
    · cases hx
  · exact aop0_wf hE hr

end
end Go.Proofs.Av
