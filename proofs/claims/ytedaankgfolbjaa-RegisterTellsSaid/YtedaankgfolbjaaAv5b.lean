/- A slice that somebody made, and hands over. -/
import Derived.Test.YtedaankgfolbjaaAv5
set_option linter.unusedVariables false
set_option linter.unusedSimpArgs false
namespace Go.Proofs.Av
open Go.RowKit

theorem RowOk.mono {base : Nat} {S S' : Stb} {w w' : World} {v : Value} {e k : Nat} {es : List (List PV)} (hS : ∀ b o u, S b o → w.cell? ⟨b, o, none⟩ = some u → S' b o ∧ w'.cell? ⟨b, o, none⟩ = some u)
    (hw : ∀ b, v.ownBlock = some b → w'.heap[b]? = w.heap[b]?) (h : RowOk base S w v e k es) : RowOk base S' w' v e k es := by
  rcases h with h | ⟨hk, xs, ho, h1, h2, h3⟩
  · exact .inl h
  · refine .inr ⟨hk, xs, ⟨ho.1, ?_⟩, h1, h2, fun i j el x he hx => ?_⟩
    · rcases ho.2 with h | ⟨g, cap, cur, hv, hbg, hg, hr⟩
      · exact .inl h
      · exact .inr ⟨g, cap, cur, hv, hbg, by rw [hw g (by rw [hv]; rfl)]; exact hg, hr⟩
    · obtain ⟨u, hu, hrep⟩ := h3 i j el x he hx
      exact ⟨u, hu, hrep.mono hS⟩

def noS : Stb := fun _ _ => False

section
variable {G : Stb} {base : Nat} {M : Nat → Prop} {w0 w : World} {hp : List HObj} {bl : Nat → Option Nat} {rv : Nat → Value}

def rvPut (rv : Nat → Value) (n : Nat) (v : Value) : Nat → Value := fun i => if i = n then v else rv i

/-- A slice that somebody made, and hands over. -/
theorem RelH.given (h : RelH G base M w0 hp bl rv w) {e k : Nat} {es : List (List PV)} {v : Value} {w' : World} (hw : Bel w.heap.size w w') (hrow : RowOk w.heap.size noS w' v e k es) :
    RelH G base M w0 (hp ++ [.row e k 0 es]) bl (rvPut rv hp.length v) w' ∧ (cx G hp bl rv w).le (cx G (hp ++ [.row e k 0 es]) bl (rvPut rv hp.length v) w') := by
  have hnew : ∀ b, v.ownBlock = some b → w.heap.size ≤ b := fun b hb => (hrow.lt hb).2
  have get : ∀ {i e1 k1 v1 es1}, (hp ++ [.row e k 0 es])[i]? = some (.row e1 k1 v1 es1) → (i < hp.length ∧ hp[i]? = some (.row e1 k1 v1 es1)) ∨ (i = hp.length ∧ e1 = e ∧ k1 = k ∧ es1 = es) := by
    intro i e1 k1 v1 es1 hr
    rcases Nat.lt_or_ge i hp.length with hlt | hge
    · rw [List.getElem?_append_left hlt] at hr
      exact .inl ⟨hlt, hr⟩
    · rw [List.getElem?_append_right hge] at hr
      rcases hj : i - hp.length with _ | j
      · rw [hj] at hr; simp at hr; obtain ⟨h1, h2, h3, h4⟩ := hr; exact .inr ⟨by omega, h1.symm, h2.symm, h4.symm⟩
      · rw [hj] at hr; simp at hr
  have getb : ∀ {i : Nat} {cs}, (hp ++ [.row e k 0 es])[i]? = some (.box cs) → hp[i]? = some (.box cs) := by
    intro i cs hr
    rcases Nat.lt_or_ge i hp.length with hlt | hge
    · rwa [List.getElem?_append_left hlt] at hr
    · rw [List.getElem?_append_right hge] at hr
      rcases hj : i - hp.length with _ | j
      · rw [hj] at hr; simp at hr
      · rw [hj] at hr; simp at hr
  have hput : ∀ {i}, i < hp.length → rvPut rv hp.length v i = rv i := fun hi => by simp only [rvPut]; rw [if_neg (by omega)]
  have hputn : rvPut rv hp.length v hp.length = v := by simp [rvPut]
  have hle : (cx G hp bl rv w).le (cx G (hp ++ [.row e k 0 es]) bl (rvPut rv hp.length v) w') := by
    refine ⟨fun b o' u s c => ⟨⟨s.1, s.2.1, fun i e1 k1 ver es1 hr ho => ?_⟩, ?_⟩, fun i B hB => hB, fun r ver val hr => ?_⟩
    · rcases get hr with ⟨hlt, hr'⟩ | ⟨rfl, _⟩
      · rw [hput hlt] at ho
        exact s.2.2 i e1 k1 ver es1 hr' ho
      · rw [hputn] at ho
        have := hnew b ho
        have := cell_lt c
        simp only [cx] at *
        omega
    · exact (hw.cell (p := ⟨b, o', none⟩) (cell_lt c)).trans c
    · obtain ⟨hval, e1, k1, es1, hr'⟩ := rwOf_some hr
      have hlt : r < hp.length := (List.getElem?_eq_some_iff.1 hr').1
      refine ⟨ver, val, ?_, Nat.le_refl _, fun _ => rfl⟩
      simp only [cx]
      rw [rwOf_row (e := e1) (k := k1) (ver := ver) (es := es1) (by rw [List.getElem?_append_left hlt]; exact hr')]
      rw [hput hlt, hval]
  have hfr := h.fr.trans (.of_below hw h.hb)
  refine ⟨⟨hfr, h.hG, Nat.le_trans h.hb hw.size, ?_, ?_, ?_, h.inj, ?_, ?_, fun i cs hi => h.ng i cs (getb hi)⟩, hle⟩
  · intro i cs hi
    obtain ⟨B, arr', e', h1, h2, h3, h4, h5⟩ := h.box i cs (getb hi)
    exact ⟨B, arr', e', h1, (hw.block B (h.bl_lt h1).1).trans h2, h3, fun j v c hv hc => ⟨(h4 j v c hv hc).1, (h4 j v c hv hc).2.le hle⟩, h5⟩
  · intro i e' k1 ver es1 hr
    rcases get hr with ⟨hlt, hr'⟩ | ⟨rfl, rfl, rfl, rfl⟩
    · rw [hput hlt]
      exact (h.row i e' k1 ver es1 hr').mono hle.w (fun b hb => hw.block b ((h.row i _ _ _ _ hr').lt hb).1)
    · rw [hputn]
      rcases hrow with h0 | ⟨hk, xs, ho, h1, h2, h3⟩
      · exact .inl h0
      · refine RowOk.mono (S := noS) (w := w') (fun b o u s => s.elim) (fun _ _ => rfl) (.inr ⟨hk, xs, ⟨ho.1, ?_⟩, h1, h2, h3⟩)
        rcases ho.2 with h | ⟨g, cap, cur, hv, hbg, hg, hr⟩
        · exact .inl h
        · exact .inr ⟨g, cap, cur, hv, Nat.le_trans h.hb hbg, hg, hr⟩
  · intro i B hB
    obtain ⟨cs', hcs'⟩ := h.only i B hB
    exact ⟨cs', by rw [List.getElem?_append_left (h.bl_lt hB).2]; exact hcs'⟩
  · intro i j e1 k1 v1 es1 e2 k2 v2 es2 b h1 h2 hb1 hb2
    rcases get h1 with ⟨l1, h1'⟩ | ⟨rfl, _⟩ <;> rcases get h2 with ⟨l2, h2'⟩ | ⟨rfl, _⟩
    · rw [hput l1] at hb1
      rw [hput l2] at hb2
      exact h.rinj i j _ _ _ _ _ _ _ _ b h1' h2' hb1 hb2
    · rw [hput l1] at hb1
      rw [hputn] at hb2
      have := ((h.row i _ _ _ _ h1').lt hb1).1
      have := hnew b hb2
      omega
    · rw [hput l2] at hb2
      rw [hputn] at hb1
      have := ((h.row j _ _ _ _ h2').lt hb2).1
      have := hnew b hb1
      omega
    · rfl
  · intro i j e' k1 v1 es1 B hr ho
    rcases get hr with ⟨hlt, hr'⟩ | ⟨rfl, _⟩
    · rw [hput hlt] at ho
      exact h.brow i j _ _ _ _ B hr' ho
    · rw [hputn] at ho
      intro hj
      have := (h.bl_lt hj).1
      have := hnew B ho
      omega

end
end Go.Proofs.Av
