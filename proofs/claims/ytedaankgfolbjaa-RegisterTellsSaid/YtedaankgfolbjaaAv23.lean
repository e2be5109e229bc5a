/- Functions that turn a slice where it lies, and hand back what is left of it. -/
import Derived.Test.YtedaankgfolbjaaAv21
set_option linter.unusedVariables false
set_option linter.unusedSimpArgs false
namespace Go.Proofs.Av
open Go.RowKit

section
variable {P : Program} {E : Env}

/-- A function that turns a slice where it lies. -/
def OutPl {β : Type} [Cell β] (P : Program) (f : FuncId) (more : List Value) (e : Nat) (s : List β → Option (List β)) : Prop :=
  ∀ (base : Nat) (w : World) (v : Value) (l l' : List β), s l = some l' → base ≤ w.heap.size → RowOk base noS w v e (Cell.n β) (l.map Cell.c) →
    Calls P f (v :: more).toArray w fun r w' => ∃ v', r = .returned v' ∧ (v'.ownBlock = v.ownBlock ∨ v'.ownBlock = none) ∧ w.grownBy w' v.ownBlock ∧ w.drawn ≤ w'.drawn ∧ RowOk base noS w' v' e (Cell.n β) (l'.map Cell.c)

/-- .. as the evaluator knows it: behind it the slice is free, or still no one else's. -/
def hC {β : Type} [Cell β] (free : Bool) (e : Nat) (more : List FuncId) (s : List β → Option (List β)) : HFn := fun xs _ h =>
  match xs with
  | .own r u :: ys =>
    if ys.map (fun | .fn g [] => some g | _ => none) = more.map some then
      match h r with
      | some (.row e' k ver es) =>
        if u = ver ∧ e' = e + raw0 ∧ k = Cell.n β then
          match dL Cell.d es with
          | some l => (s l).map fun l' => { v := .own r (ver + 1), wr := [(r, .row (if free = true then e else e') k (ver + 1) (l'.map Cell.c))], rd := [r] }
          | none => none
        else none
      | _ => none
    else none
  | _ => none

theorem hC_frame {β : Type} [Cell β] (free : Bool) (e : Nat) (more : List FuncId) (s : List β → Option (List β)) : HFrame (hC free e more s) := by
  refine ⟨fun xs len len' h h' r hr hf hl => ?_, fun xs len h r hr => ?_, fun xs len h r hr => ?_⟩
  · unfold hC at hr ⊢
    split at hr
    · rename_i q u ys
      split at hr
      · rename_i hm
        simp only [hm, ↓reduceIte]
        split at hr
        · rename_i e' k ver es hrow
          split at hr
          · rename_i hc
            split at hr
            · rename_i l hl'
              obtain ⟨l', hs, rfl⟩ := Option.map_eq_some_iff.1 hr
              rw [hf q (by simp), hrow]
              simp only [hc, and_self, ↓reduceIte, hl', hs]
              simp [hc]
            · cases hr
          · cases hr
        · cases hr
      · cases hr
    · cases hr
  · unfold hC at hr
    split at hr
    · split at hr
      · split at hr
        · rename_i hrow
          split at hr
          · split at hr
            · obtain ⟨l', hs, rfl⟩ := Option.map_eq_some_iff.1 hr
              intro q hq
              simp at hq
              subst hq
              simp [hrow]
            · cases hr
          · cases hr
        · cases hr
      · cases hr
    · cases hr
  · unfold hC at hr
    split at hr
    · split at hr
      · split at hr
        · split at hr
          · split at hr
            · obtain ⟨l', hs, rfl⟩ := Option.map_eq_some_iff.1 hr
              simp
            · cases hr
          · cases hr
        · cases hr
      · cases hr
    · cases hr

theorem OutPl.heap {β : Type} [Cell β] [Sca β] {f : FuncId} {more : List FuncId} {e : Nat} {s : List β → Option (List β)} (free : Bool) (he : e < raw0) (hc : OutPl P f (more.map fun g => .func (.func g) #[] #[]) e s) : HeapC P f (hC free e more s) := by
  intro G base M w0 hp bl rv w vs xs r hH hr hs hvc
  unfold hC at hs
  split at hs
  · rename_i q u ys
    split at hs
    · rename_i hm
      split at hs
      · rename_i e' k ver es hrow
        split at hs
        · rename_i hcnd
          obtain ⟨rfl, rfl, rfl⟩ := hcnd
          split at hs
          · rename_i l hl
            obtain ⟨l', hs', rfl⟩ := Option.map_eq_some_iff.1 hs
            have hes := Sca.list hl
            subst hes
            obtain ⟨hlen, hh⟩ := hr
            rcases vs with _ | ⟨v, vs⟩
            · simp at hlen
            have hv := hh 0 v _ rfl rfl
            have hvr : v = rv q := by
              cases hv with
              | own hw hle heq h1 =>
                simp only [cx] at hw
                rw [rwOf_row hrow] at hw
                simp at hw
                obtain ⟨rfl, rfl⟩ := hw
                exact heq rfl
            have hmore := reps_fns (vs := vs) hm ⟨by simpa using hlen, fun i v x hv hx => hh (i + 1) v x (by simpa using hv) (by simpa using hx)⟩
            subst hvr
            subst hmore
            have hro : RowOk base noS w (rv q) e (Cell.n β) (l.map Cell.c) := ((hH.row q _ _ _ _ hrow).sca (S' := noS)).ety (by rw [ety_raw, ety_small he])
            refine (hc base w (rv q) l l' hs' hH.hb hro).mono fun r w' ⟨v1, hr1, hob, hgb, hdr, hro'⟩ => ?_
            have hety : RowOk base noS w' v1 (if free = true then e else e + raw0) (Cell.n β) (l'.map Cell.c) := by
              cases free with
              | true => exact hro'
              | false => exact hro'.ety (by rw [if_neg (by simp), ety_raw, ety_small he])
            obtain ⟨h1, h2⟩ := hH.redo (v1 := v1) (ver1 := u + 1) hrow (by omega) hob (Nat.le_succ _) (fun e => by omega) hgb hdr hety
            refine ⟨_, bl, rvSet rv q v1, hr1, by simpa [Res.app, setMany] using h1, by simpa [Res.app, setMany] using h2, ?_⟩
            have hql : q < hp.length := (List.getElem?_eq_some_iff.1 hrow).1
            refine .own (ver := u + 1) (val := v1) ?_ (Nat.le_refl _) (fun _ => rfl) ?_
            · simp only [Res.app, setMany, cx, List.append_nil]
              rw [rwOf_row (e := if free = true then e else e + raw0) (k := Cell.n β) (ver := u + 1) (es := l'.map Cell.c) (by simp [hql])]
              simp [rvSet]
            · rcases hro' with ⟨_, _, rfl⟩ | ⟨_, _, ho, _⟩
              · rfl
              · rcases ho.2 with ⟨rfl, _⟩ | ⟨g, cap, cur, rfl, _⟩ <;> rfl
          · cases hs
        · cases hs
      · cases hs
    · cases hs
  · cases hs

end
attribute [simp] hC
end Go.Proofs.Av
