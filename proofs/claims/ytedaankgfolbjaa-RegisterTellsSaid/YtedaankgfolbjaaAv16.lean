/- Code as one condition. -/
import Derived.Test.YtedaankgfolbjaaAv15
set_option linter.unusedVariables false
set_option linter.unusedSimpArgs false
namespace Go.Proofs.Av
open Go.RowKit

def big : Nat := 9223372036854775807

/-- What is known of any value that lies somewhere: no slice is longer than the language lets it be. -/
def fitC : PV → Prop
  | .sl _ es => es.length ≤ big
  | _ => True

def fitA : AV → Prop
  | .p (.agg cs) => ∀ c ∈ cs, fitC c
  | .p x => fitC x
  | .agg cs => ∀ c ∈ cs, match c with | .p x => fitC x | _ => True
  | _ => True

def fitO : HObj → Prop
  | .row _ _ _ es => es.length ≤ big
  | _ => True

def St.fits (σ : St) (nt : Nat) : Prop := (∀ t, t < nt → fitA (σ.tm t)) ∧ ∀ o ∈ σ.hp, fitO o

theorem RepP.fit {S : Stb} {w : World} {v : Value} {x : PV} (h : RepP S w v x) : fitC x := by
  cases h with
  | sl b off g hn hc hm => simp only [fitC]; rw [hn]; exact Nat.le_trans hc hm
  | _ => trivial

theorem RepA.fit {C : Cx} {v : Value} {x : AV} (h : RepA C v x) : fitA x := by
  cases h with
  | p h =>
    cases h with
    | agg hl h1 h =>
      rename_i vs cs
      intro c hc
      obtain ⟨i, hi⟩ := List.getElem?_of_mem hc
      have hlt : i < vs.length := by rw [hl]; exact (List.getElem?_eq_some_iff.1 hi).1
      exact (h i _ c (List.getElem?_eq_getElem hlt) hi).fit
    | sc h => trivial
    | tup => trivial
    | sl b off g hn hc hm => simp only [fitA, fitC]; rw [hn]; exact Nat.le_trans hc hm
  | agg hl h1 h =>
    rename_i vs cs
    intro c hc
    obtain ⟨i, hi⟩ := List.getElem?_of_mem hc
    have hlt : i < vs.length := by rw [hl]; exact (List.getElem?_eq_some_iff.1 hi).1
    have := h i _ c (List.getElem?_eq_getElem hlt) hi
    cases c <;> first | trivial | exact this.pv.fit
  | _ => trivial

theorem Rl.fits {G : Stb} {base : Nat} {M : Nat → Prop} {w0 w : World} {C0 : Cx} {m0 nt : Nat} {σ : St} {a : Act} (h : Rl G base M w0 C0 m0 nt σ a w) : σ.fits nt := by
  obtain ⟨bl, rv, h⟩ := h
  refine ⟨fun t ht => (h.slots t ht).fit, fun o ho => ?_⟩
  obtain ⟨i, hi⟩ := List.getElem?_of_mem ho
  cases o with
  | box cs => trivial
  | row e k ver es =>
    rcases h.H.row i e k ver es hi with ⟨_, rfl, _⟩ | ⟨_, xs, ho, _⟩
    · exact Nat.zero_le _
    · rcases ho.2 with ⟨_, hn⟩ | ⟨g, cap, cur, _, _, _, hnc, hcm, _⟩
      · simp only [fitO]; rw [hn]; exact Nat.zero_le _
      · exact Nat.le_trans hnc hcm

/-- What must hold for a piece of code to come to Q. -/
def ac (E : Env) (nt m0 : Nat) : Code → (Exit → St → Prop) → St → Prop
  | .skip, Q, σ => Q .normal σ
  | .region _ ops draw, Q, σ =>
    match areg E ops draw nt σ with
    | some (σ', v) => v ∧ Q .normal σ'
    | none => False
  | .seq x y, Q, σ => ac E nt m0 x (thenQ (ac E nt m0 y Q) Q) σ
  | .cond c x y, Q, σ =>
    match σ.ev c with
    | .p (.sc (.bool b)) => tmpsIn nt [c] = true ∧ (b = true → ac E nt m0 x Q σ) ∧ (b = false → ac E nt m0 y Q σ)
    | _ => False
  | .block id c, Q, σ => ac E nt m0 c (inBlockQ id Q) σ
  | .exit id, Q, σ => Q (.exit id) σ
  | .ret, Q, σ => Q .ret σ
  | .goto l, Q, σ => Q (.goto l) σ
  | .label _, Q, σ => Q .normal σ
  | .loop c, Q, σ => σ.fits nt → ∃ (I : Nat → St → Prop) (g : Nat) (σ0 : St), Weak m0 nt σ σ0 ∧ I g σ0 ∧ ∀ g σ, I g σ → σ.fits nt → ac E nt m0 c (loopQ m0 nt I g Q) σ
  | _, _, _ => False

section
variable {P : Program} {E : Env} {nt m0 : Nat}

theorem ac_sound (hE : EnvOk P E) (hm : P.follows .mixedOrders = true) : ∀ (c : Code) (Q : Exit → St → Prop) (σ : St), ac E nt m0 c Q σ → AW P nt m0 c Q σ
  | .skip, Q, σ, h => aw_skip h
  | .region id ops draw, Q, σ, h => by
    simp only [ac] at h
    split at h
    · rename_i σ' v hs
      exact aw_region hE hm hs h.1 h.2
    · exact h.elim
  | .seq x y, Q, σ, h => by
    refine aw_seq (aw_mono (ac_sound hE hm x _ σ h) fun e σ' hq => ?_)
    cases e
    case normal => exact ac_sound hE hm y Q σ' hq
    all_goals exact hq
  | .cond c x y, Q, σ, h => by
    simp only [ac] at h
    split at h
    · rename_i b hb
      exact aw_cond h.1 hb (fun e => ac_sound hE hm x Q σ (h.2.1 e)) (fun e => ac_sound hE hm y Q σ (h.2.2 e))
    · exact h.elim
  | .block id c, Q, σ, h => aw_block (ac_sound hE hm c _ σ h)
  | .exit id, Q, σ, h => aw_exit h
  | .ret, Q, σ, h => aw_ret h
  | .loop c, Q, σ, h => by
    intro G base M w0 C0 a w hR
    obtain ⟨I, g, σ0, h1, h2, h4⟩ := h hR.fits
    exact aw_loop I g σ0 h1 h2 (fun g σ hI G base M w0 C0 a w hR => ac_sound hE hm c _ σ (h4 g σ hI hR.fits) G base M w0 C0 a w hR) G base M w0 C0 a w hR
  | .goto _, Q, σ, h => aw_goto h
  | .label _, Q, σ, h => aw_label h
  | .scope _, Q, σ, h => by simp [ac] at h
  | .rangeFunc .., Q, σ, h => by simp [ac] at h

end
end Go.Proofs.Av
