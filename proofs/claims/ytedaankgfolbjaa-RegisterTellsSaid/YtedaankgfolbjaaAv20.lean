/- Slices that are no one else's: handed over; turned where they lie. -/
import Derived.Test.YtedaankgfolbjaaAv19
set_option linter.unusedVariables false
set_option linter.unusedSimpArgs false
namespace Go.Proofs.Av
open Go.RowKit

section
variable {P : Program} {G : Stb} {base : Nat} {M : Nat → Prop} {w0 w : World} {hp : List HObj} {bl : Nat → Option Nat} {rv : Nat → Value}

/-- A slice that is no one else's, turned where it lies, or set free. -/
theorem RelH.redo (h : RelH G base M w0 hp bl rv w) {r e0 k0 ver e k ver1 : Nat} {es es1 : List (List PV)} {v1 : Value} {w' : World}
    (hr : hp[r]? = some (.row e0 k0 ver es)) (hraw : raw0 ≤ e0) (hv : v1.ownBlock = (rv r).ownBlock ∨ v1.ownBlock = none) (hver : ver ≤ ver1) (hsame : ver1 = ver → v1 = rv r)
    (hgb : w.grownBy w' (rv r).ownBlock) (hdr : w.drawn ≤ w'.drawn) (hrow : RowOk base noS w' v1 e k es1) :
    RelH G base M w0 (hp.set r (.row e k ver1 es1)) bl (rvSet rv r v1) w' ∧ (cx G hp bl rv w).le (cx G (hp.set r (.row e k ver1 es1)) bl (rvSet rv r v1) w') := by
  have hrl : r < hp.length := (List.getElem?_eq_some_iff.1 hr).1
  have hv' : ∀ b, v1.ownBlock = some b → (rv r).ownBlock = some b := fun b hb => by
    rcases hv with hv | hv
    · rw [← hv]; exact hb
    · rw [hv] at hb; cases hb
  have get : ∀ {j : Nat} {e1 k1 v1 es2}, (hp.set r (.row e k ver1 es1))[j]? = some (.row e1 k1 v1 es2) →
      (j ≠ r ∧ hp[j]? = some (.row e1 k1 v1 es2)) ∨ (j = r ∧ e1 = e ∧ k1 = k ∧ v1 = ver1 ∧ es2 = es1) := by
    intro j e1 k1 v1 es2 hj
    by_cases hjr : r = j
    · subst hjr
      simp [hrl] at hj
      obtain ⟨rfl, rfl, rfl, rfl⟩ := hj
      exact .inr ⟨rfl, rfl, rfl, rfl, rfl⟩
    · rw [List.getElem?_set_ne hjr] at hj
      exact .inl ⟨fun e => hjr e.symm, hj⟩
  have getb : ∀ {j : Nat} {cs}, (hp.set r (.row e k ver1 es1))[j]? = some (.box cs) → hp[j]? = some (.box cs) := by
    intro j cs hj
    by_cases hjr : r = j
    · subst hjr; simp [hrl] at hj
    · rwa [List.getElem?_set_ne hjr] at hj
  have hnot : ∀ b o, stb G hp bl rv b o → (rv r).ownBlock ≠ some b := fun b o s hb => by
    have := (s.2.2 r _ _ _ _ hr hb).1
    omega
  have hle : (cx G hp bl rv w).le (cx G (hp.set r (.row e k ver1 es1)) bl (rvSet rv r v1) w') := by
    refine ⟨fun b o u s c => ?_, fun i B hB => hB, fun r' ver' val hr' => ?_⟩
    · change w.cell? ⟨b, o, none⟩ = some u at c
      have hb := cell_lt c
      refine ⟨⟨s.1, s.2.1, fun j e1 k1 v2 es2 hj ho => ?_⟩, ?_⟩
      · rcases get hj with ⟨hne, hj'⟩ | ⟨rfl, _⟩
        · simp only [rvSet, hne, if_false] at ho
          exact s.2.2 j e1 k1 v2 es2 hj' ho
        · simp only [rvSet, if_true] at ho
          exact absurd (hv' b ho) (hnot b o s)
      · exact (World.cell?_of_block (a := ⟨b, o, none⟩) (hgb.block b hb (fun e => hnot b o s e.symm))).trans c
    · obtain ⟨hval, e1, k1, es2, hr1⟩ := rwOf_some hr'
      by_cases hrr : r' = r
      · subst hrr
        rw [hr] at hr1
        simp at hr1
        obtain ⟨_, _, rfl, _⟩ := hr1
        refine ⟨ver1, v1, ?_, hver, fun e => by rw [hsame e, hval]⟩
        simp only [cx]
        rw [rwOf_row (e := e) (k := k) (ver := ver1) (es := es1) (by simp [hrl])]
        simp [rvSet]
      · refine ⟨ver', val, ?_, Nat.le_refl _, fun _ => rfl⟩
        simp only [cx]
        rw [rwOf_row (e := e1) (k := k1) (ver := ver') (es := es2) (by rw [List.getElem?_set_ne (fun e => hrr e.symm)]; exact hr1)]
        simp [rvSet, hrr, hval]
  have hrowlt : ∀ b, (rv r).ownBlock = some b → b < w.heap.size ∧ base ≤ b := fun b hb => (h.row r _ _ _ _ hr).lt hb
  have hfr : Fr base M w w' := ⟨hgb.os, hgb.tape, hgb.output, hgb.size, fun k hk _ => hgb.block k (Nat.lt_of_lt_of_le hk h.hb) (fun e => by have := (hrowlt k e.symm).2; omega), hdr⟩
  refine ⟨⟨h.fr.trans hfr, h.hG, Nat.le_trans h.hb hgb.size, ?_, ?_, ?_, h.inj, ?_, ?_, fun i cs hi => h.ng i cs (getb hi)⟩, hle⟩
  · intro i cs hi
    obtain ⟨B, arr, e1, h1, h2, h3, h4, h5⟩ := h.box i cs (getb hi)
    refine ⟨B, arr, e1, h1, ?_, h3, fun j v c hv hc => ⟨(h4 j v c hv hc).1, (h4 j v c hv hc).2.le hle⟩, h5⟩
    exact (hgb.block B (h.bl_lt h1).1 (fun e => h.brow r i _ _ _ _ B hr e.symm h1)).trans h2
  · intro i e1 k1 v2 es2 hi
    rcases get hi with ⟨hne, hi'⟩ | ⟨rfl, rfl, rfl, rfl, rfl⟩
    · simp only [rvSet, hne, if_false]
      refine (h.row i e1 k1 v2 es2 hi').mono (hle.w) (fun b hb => hgb.block b ((h.row i _ _ _ _ hi').lt hb).1 (fun e => hne (h.rinj i r _ _ _ _ _ _ _ _ b hi' hr hb e.symm)))
    · simp only [rvSet, if_true]
      exact hrow.mono (fun b o u s => s.elim) (fun _ _ => rfl)
  · intro i B hB
    obtain ⟨cs, hcs⟩ := h.only i B hB
    refine ⟨cs, ?_⟩
    have hir : r ≠ i := fun e => by subst e; rw [hr] at hcs; cases hcs
    rw [List.getElem?_set_ne hir]
    exact hcs
  · intro i j e1 k1 u1 es2 e2 k2 u2 es3 b h1 h2 hb1 hb2
    rcases get h1 with ⟨n1, h1'⟩ | ⟨r1, _⟩ <;> rcases get h2 with ⟨n2, h2'⟩ | ⟨r2, _⟩
    · simp only [rvSet, n1, n2, if_false] at hb1 hb2
      exact h.rinj i j _ _ _ _ _ _ _ _ b h1' h2' hb1 hb2
    · subst r2
      simp only [rvSet, n1, if_false, if_true] at hb1 hb2
      exact h.rinj i j _ _ _ _ _ _ _ _ b h1' hr hb1 (hv' b hb2)
    · subst r1
      simp only [rvSet, n2, if_false, if_true] at hb1 hb2
      exact h.rinj i j _ _ _ _ _ _ _ _ b hr h2' (hv' b hb1) hb2
    · omega
  · intro i j e1 k1 u1 es2 B h1 hb1
    rcases get h1 with ⟨n1, h1'⟩ | ⟨r1, _⟩
    · simp only [rvSet, n1, if_false] at hb1
      exact h.brow i j _ _ _ _ B h1' hb1
    · subst r1
      simp only [rvSet, if_true] at hb1
      exact h.brow i j _ _ _ _ B hr (hv' B hb1)


end
end Go.Proofs.Av
