/- Plain functions that take a function beside plain data. -/
import Derived.Test.YtedaankgfolbjaaAv18
set_option linter.unusedVariables false
set_option linter.unusedSimpArgs false
namespace Go.Proofs.Av
open Go.RowKit

section
variable {P : Program} {E : Env}

theorem pureY_of {β : Type} [Ty β] (hE : EnvOk P E) (hm : P.follows .mixedOrders = true) {f : FuncId} {fn : Func} {c : Code} (hf : P.funcs[f]? = some fn) (hb : fn.body = some c) (hin : resIn fn.ntmps fn.results.toList = true) {ys : List AV} {b : β}
    (har : ys.length ≤ fn.ntmps) (h : (∀ x ∈ ys, fitA x) → ac E fn.ntmps 0 c (endT E fn.results.toList b) { tm := slotsOf ys, hp := [] }) :
    ∀ (S : Stb) (w : World) (vs : List Value), (∀ b o, w.heap.size ≤ b → S b o) → Reps (RepA (cx S [] (fun _ => none) (fun _ => undef) w)) vs ys → Calls P f vs.toArray w fun e w' => ∃ v, e = .returned v ∧ Bel w.heap.size w w' ∧ RepP S w' v (Ty.e b) := by
  intro S w vs hS hrA
  have hfit : ∀ x ∈ ys, fitA x := fun x hx => by
    obtain ⟨i, hi⟩ := List.getElem?_of_mem hx
    have hlt : i < vs.length := by rw [hrA.1]; exact (List.getElem?_eq_some_iff.1 hi).1
    exact (hrA.2 i _ x (List.getElem?_eq_getElem hlt) hi).fit
  refine calls_of_wp hf hb ?_
  have hH : RelH S w.heap.size (fun _ => False) w [] (fun _ => none) (fun _ => undef) w :=
    ⟨.refl _ _ _, hS, Nat.le_refl _, by simp, by simp, by simp, by simp, by simp, by simp, by simp⟩
  obtain ⟨hsz, hsl⟩ := slots_init hrA fn.ntmps (by rw [hrA.1]; exact har)
  have hR : Rel S w.heap.size (fun _ => False) w ⟨fun _ _ => False, w, fun _ => none, fun _ => none⟩ 0 fn.ntmps { tm := slotsOf ys, hp := [] } (fun _ => none) (fun _ => undef)
      { tmps := vs.toArray ++ Array.replicate (fn.ntmps - vs.toArray.size) undef, defers := [] } w :=
    ⟨hH, ⟨fun b o u s => s.elim, by simp, by simp⟩, Nat.le_refl _, by simp, by simp, hsz, hsl, rfl⟩
  refine wp_mono (ac_sound hE hm c _ _ (h hfit) S w.heap.size (fun _ => False) w _ _ w ⟨_, _, hR⟩) fun e a' w' ⟨σ, ⟨bl, rv, hR'⟩, he, hend⟩ => ?_
  split at hend
  · rename_i us p h1
    obtain ⟨h2, h3⟩ := hend
    split at h3
    · rename_i ys h4
      obtain ⟨ws, hrun, hreps⟩ := results_run hE hR' fn hin h1 h2
      have hd := hR'.H.demAll hreps h4
      have hb : Bel w.heap.size w w' := ⟨⟨hR'.H.fr.os, hR'.H.fr.tape, hR'.H.fr.output, hR'.H.fr.size, fun k hk => hR'.H.fr.block k hk (fun h => h)⟩, hR'.H.fr.drawn⟩
      have hfin : RepP S w' (oneV ws) (Ty.e b) := Ty.rep h3 ((one_rep hd).mono fun b o u s c => ⟨s.1, c⟩)
      rcases he with rfl | rfl <;> exact ⟨hR'.df, _, hrun, _, rfl, hb, hfin⟩
    · exact h3.elim
  · exact hend.elim

/-- One plain thing and one function that is known. -/
def hF1 {α β : Type} [Ty α] [Ty β] (g : FuncId) (s : α → Option β) : HFn := fun xs _ h =>
  match xs with
  | [x, .fn k []] =>
    if k = g then
      match dem h x with
      | some p => match Ty.d p with | some a => (s a).map fun b => { v := .p (Ty.e b), rd := rdOf x } | none => none
      | none => none
    else none
  | _ => none

theorem hF1_frame {α β : Type} [Ty α] [Ty β] (g : FuncId) (s : α → Option β) : HFrame (hF1 g s) := by
  refine ⟨fun xs len len' h h' r hr hf hl => ?_, fun xs len h r hr => ?_, fun xs len h r hr => ?_⟩
  · unfold hF1 at hr ⊢
    split at hr
    · rename_i x k
      split at hr
      · rename_i hk
        simp only [hk, ↓reduceIte]
        split at hr
        · rename_i p hp
          split at hr
          · rename_i a ha
            obtain ⟨b, hb, rfl⟩ := Option.map_eq_some_iff.1 hr
            rw [dem_frame x hf, hp]
            simp [ha, hb]
          · cases hr
        · cases hr
      · cases hr
    · cases hr
  all_goals
    unfold hF1 at hr
    split at hr
    · split at hr
      · split at hr
        · split at hr
          · obtain ⟨b, hb, rfl⟩ := Option.map_eq_some_iff.1 hr
            simp
          · cases hr
        · cases hr
      · cases hr
    · cases hr

theorem heapF1 {α β : Type} [Ty α] [Ty β] (hE : EnvOk P E) (hm : P.follows .mixedOrders = true) {f : FuncId} {fn : Func} {c : Code} (hf : P.funcs[f]? = some fn) (hb : fn.body = some c) (hin : resIn fn.ntmps fn.results.toList = true) {g : FuncId} {s : α → Option β}
    (hl : 2 ≤ fn.ntmps) (h : ∀ a b, s a = some b → fitA (.p (Ty.e a)) → ac E fn.ntmps 0 c (endT E fn.results.toList b) { tm := slotsOf [.p (Ty.e a), .fn g []], hp := [] }) : HeapC P f (hF1 g s) := by
  intro G base M w0 hp bl rv w vs xs r hH hr hs hvc
  unfold hF1 at hs
  split at hs
  · rename_i x k
    split at hs
    · rename_i hk
      subst hk
      split at hs
      · rename_i p hp'
        split at hs
        · rename_i a ha
          obtain ⟨b, hb', rfl⟩ := Option.map_eq_some_iff.1 hs
          obtain ⟨hl', hh⟩ := hr
          match vs, hl' with
          | [v1, v2], _ =>
            have h1 := hH.dem (hh 0 v1 x rfl rfl) hp'
            have h2 := hh 1 v2 _ rfl rfl
            have hS : ∀ b o, w.heap.size ≤ b → stb G hp bl rv b o := fun b o hb => hH.fresh hb o
            refine (pureY_of hE hm hf hb hin (ys := [.p (Ty.e a), .fn k []]) (by simpa using hl) (fun hfit => h a b hb' (hfit _ (by simp))) (stb G hp bl rv) w [v1, v2] hS ⟨rfl, fun i v z hv hz => ?_⟩).mono fun e w' ⟨v, he, hbl, hrep⟩ => ?_
            · match i with
              | 0 =>
                simp at hv hz; subst hv; subst hz
                exact .p ((Ty.rep ha h1).mono fun b o u s c => ⟨⟨s, by simp, by simp⟩, c⟩)
              | 1 =>
                simp at hv hz; subst hv; subst hz
                cases h2 with
                | @fn _ ws _ hl'' hh'' =>
                  obtain rfl : ws = [] := List.eq_nil_of_length_eq_zero hl''
                  exact .fn rfl (by simp)
              | i + 2 => simp at hv
            · obtain ⟨bl', rv', k1, k2, k3⟩ := Post.below (r := { v := .p (Ty.e b), rd := rdOf x }) hH rfl rfl hbl (.p hrep)
              exact ⟨v, bl', rv', he, k1, k2, k3⟩
        · cases hs
      · cases hs
    · cases hs
  · cases hs

end
end Go.Proofs.Av
