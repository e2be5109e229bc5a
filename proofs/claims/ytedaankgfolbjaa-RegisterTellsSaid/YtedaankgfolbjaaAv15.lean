/- Code: what it comes to, in the abstract; contracts out of that. -/
import Derived.Test.YtedaankgfolbjaaAv14
import Derived.Scope
set_option linter.unusedVariables false
set_option linter.unusedSimpArgs false
namespace Go.Proofs.Av
open Go.RowKit

/-- The relation, where memory lies left open. -/
def Rl (G : Stb) (base : Nat) (M : Nat → Prop) (w0 : World) (C0 : Cx) (m0 nt : Nat) (σ : St) (a : Act) (w : World) : Prop := ∃ bl rv, Rel G base M w0 C0 m0 nt σ bl rv a w

def LQ (G : Stb) (base : Nat) (M : Nat → Prop) (w0 : World) (C0 : Cx) (m0 nt : Nat) (Q : Exit → St → Prop) : Exit → Act → World → Prop := fun e a w => ∃ σ, Rl G base M w0 C0 m0 nt σ a w ∧ Q e σ

/-- What a piece of code comes to, whatever memory it meets. -/
def AW (P : Program) (nt m0 : Nat) (c : Code) (Q : Exit → St → Prop) (σ : St) : Prop :=
  ∀ (G : Stb) (base : Nat) (M : Nat → Prop) (w0 : World) (C0 : Cx) (a : Act) (w : World), Rl G base M w0 C0 m0 nt σ a w → c.wp P (LQ G base M w0 C0 m0 nt Q) a w

section
variable {P : Program} {E : Env} {nt m0 : Nat} {σ : St} {Q : Exit → St → Prop}

theorem aw_mono {c : Code} {Q' : Exit → St → Prop} (h : AW P nt m0 c Q σ) (hq : ∀ e σ, Q e σ → Q' e σ) : AW P nt m0 c Q' σ :=
  fun G base M w0 C0 a w hR => wp_mono (h G base M w0 C0 a w hR) fun e a w ⟨σ, h1, h2⟩ => ⟨σ, h1, hq _ _ h2⟩

theorem aw_skip (h : Q .normal σ) : AW P nt m0 .skip Q σ := fun G base M w0 C0 a w hR => wp_skip ⟨σ, hR, h⟩
theorem aw_exit {id : Nat} (h : Q (.exit id) σ) : AW P nt m0 (.exit id) Q σ := fun G base M w0 C0 a w hR => wp_exit ⟨σ, hR, h⟩
theorem aw_goto {l : Nat} (h : Q (.goto l) σ) : AW P nt m0 (.goto l) Q σ := fun G base M w0 C0 a w hR => wp_goto ⟨σ, hR, h⟩
theorem aw_label {l : Nat} (h : Q .normal σ) : AW P nt m0 (.label l) Q σ := fun G base M w0 C0 a w hR => wp_label ⟨σ, hR, h⟩
theorem aw_ret (h : Q .ret σ) : AW P nt m0 .ret Q σ := fun G base M w0 C0 a w hR => wp_ret ⟨σ, hR, h⟩

theorem aw_region (hE : EnvOk P E) (hm : P.follows .mixedOrders = true) {id : Nat} {ops : Array Oper} {draw : Bool} {σ' : St} {v : Prop} (hs : areg E ops draw nt σ = some (σ', v)) (hv : v) (h : Q .normal σ') : AW P nt m0 (.region id ops draw) Q σ :=
  fun G base M w0 C0 a w ⟨bl, rv, hR⟩ => areg_sound hE hm hR hs hv (fun bl' rv' a' w' hR' => ⟨σ', ⟨bl', rv', hR'⟩, h⟩)

def thenQ (x : St → Prop) (Q : Exit → St → Prop) : Exit → St → Prop
  | .normal, σ => x σ
  | e, σ => Q e σ

theorem aw_seq {x y : Code} (h : AW P nt m0 x (thenQ (AW P nt m0 y Q) Q) σ) : AW P nt m0 (.seq x y) Q σ := fun G base M w0 C0 a w hR => by
  refine wp_seq (wp_mono (h G base M w0 C0 a w hR) fun e a w ⟨σ', hR', hq⟩ => ?_)
  cases e
  case normal => exact hq G base M w0 C0 a w hR'
  all_goals exact ⟨σ', hR', hq⟩

/-- What follows, behind a name. -/
theorem aw_seq_k {x y : Code} (h : ∀ K : St → Prop, (∀ σ, AW P nt m0 y Q σ → K σ) → AW P nt m0 x (thenQ K Q) σ) : AW P nt m0 (.seq x y) Q σ := aw_seq (h _ fun _ h => h)

theorem aw_cond {c : Operand} {x y : Code} {b : Bool} (hin : tmpsIn nt [c] = true) (hc : σ.ev c = .p (.sc (.bool b))) (ht : b = true → AW P nt m0 x Q σ) (hf : b = false → AW P nt m0 y Q σ) : AW P nt m0 (.cond c x y) Q σ :=
  fun G base M w0 C0 a w ⟨bl, rv, hR⟩ => by
    have hrep := ev_rep hR c (fun t e => tmpsIn_spec hin (by simp) t e)
    rw [hc] at hrep
    have hv := hrep.scv
    cases b with
    | true => exact wp_cond_true hv (ht rfl G base M w0 C0 a w ⟨bl, rv, hR⟩)
    | false => exact wp_cond_false hv (hf rfl G base M w0 C0 a w ⟨bl, rv, hR⟩)

def inBlockQ (id : Nat) (Q : Exit → St → Prop) : Exit → St → Prop
  | .exit id', σ => if id' = id then Q .normal σ else Q (.exit id') σ
  | e, σ => Q e σ

theorem aw_block {id : Nat} {c : Code} (h : AW P nt m0 c (inBlockQ id Q) σ) : AW P nt m0 (.block id c) Q σ := fun G base M w0 C0 a w hR => by
  refine wp_block (wp_mono (h G base M w0 C0 a w hR) fun e a w ⟨σ', hR', hq⟩ => ?_)
  cases e
  case exit id' =>
    simp only [Exit.inBlock, inBlockQ] at hq ⊢
    split
    · rename_i he; rw [if_pos he] at hq; exact ⟨σ', hR', hq⟩
    · rename_i he; rw [if_neg he] at hq; exact ⟨σ', hR', hq⟩
  all_goals exact ⟨σ', hR', hq⟩

/-- Forget: the memory from n on, and every slot but those of the list. -/
def St.keep (σ : St) (n : Nat) (ks : List Nat) : St := { tm := fun t => if ks.contains t = true then (σ.tm t).cut n else .dead, hp := cutH n σ.hp }

theorem Rel.keep {G : Stb} {base : Nat} {M : Nat → Prop} {w0 w : World} {C0 : Cx} {bl : Nat → Option Nat} {rv : Nat → Value} {a : Act} (h : Rel G base M w0 C0 m0 nt σ bl rv a w) {n : Nat} (hn : m0 ≤ n) (hl : n ≤ σ.hp.length) (ks : List Nat) : Rel G base M w0 C0 m0 nt (σ.keep n ks) (blCut bl n) rv a w := by
  refine ⟨h.H.cut n, ⟨fun b o u s c => ?_, fun b B hB => ?_, fun r ver val hr => ?_⟩, ?_, h.dbl, h.drw, h.sz, fun t ht => ?_, h.df⟩
  · obtain ⟨h1, h2⟩ := h.org.w b o u s c
    exact ⟨stb_cut h1, h2⟩
  · have := h.org.bl b B hB
    simp only [cx, blCut]
    rw [if_pos (Nat.lt_of_lt_of_le (h.dbl b B hB) hn)]
    exact this
  · obtain ⟨ver', val', h1, h2, h3⟩ := h.org.rw_ r ver val hr
    have hlt := Nat.lt_of_lt_of_le (h.drw r _ hr) hn
    simp only [cx] at h1 ⊢
    obtain ⟨hv, e, k, es, hrow⟩ := rwOf_some h1
    refine ⟨ver', val', ?_, h2, h3⟩
    simp only [St.keep]
    rw [rwOf_row (cutH_get_row hrow hlt), hv]
  · simp only [St.keep, cutH, List.length_map, List.length_take]
    have := h.len
    omega
  · simp only [St.keep]
    split
    · exact (h.slots t ht).cut
    · exact .dead

/-- A state that says less. -/
def Weak (m0 nt : Nat) (σ σ' : St) : Prop :=
  ∀ (G : Stb) (base : Nat) (M : Nat → Prop) (w0 : World) (C0 : Cx) (a : Act) (w : World), Rl G base M w0 C0 m0 nt σ a w → Rl G base M w0 C0 m0 nt σ' a w

theorem aw_weak {c : Code} {σ' : St} (hw : Weak m0 nt σ σ') (h : AW P nt m0 c Q σ') : AW P nt m0 c Q σ :=
  fun G base M w0 C0 a w hR => h G base M w0 C0 a w (hw _ _ _ _ _ _ _ hR)

/-- A slice of nothing is a slice of nothing, of whatever type. -/
def softP (q p : PV) : Prop := q = p ∨ ∃ k k', q = .sl k [] ∧ p = .sl k' []
theorem RepP.softP {S : Stb} {w : World} {v : Value} {q p : PV} (h : RepP S w v q) (hs : softP q p) : RepP S w v p := by
  rcases hs with rfl | ⟨k, k', rfl, rfl⟩
  · exact h
  · cases h with
    | sl b off g hn hc hm hA hk hcell hrep => exact .sl b off g hn hc hm hA (by simp) (by simp) (by simp)

/-- What a slot holds may be said as a plain value. -/
def softA (h : Nat → Option HObj) (n : Nat) (x : AV) : AV → Prop
  | .p p =>
    match x with
    | .own r u => ∃ q, demC h (.own r u) = some q ∧ softP q p
    | .p q => softP q p
    | _ => False
  | v => x.cut n = v

/-- A slice of nothing may be said to be of any type. -/
def softO : HObj → HObj → Prop
  | .row e k ver es, .row e' k' ver' es' => (e = e' ∧ k = k' ∧ ver = ver' ∧ es = es') ∨ (k = 0 ∧ es = [] ∧ ver = ver' ∧ es' = [] ∧ 0 < k')
  | .box cs, .box cs' => cs = cs'
  | _, _ => False
def softH : List HObj → List HObj → Prop
  | [], [] => True
  | o :: l, o' :: l' => softO o o' ∧ softH l l'
  | _, _ => False

theorem softH_get : ∀ {l l' : List HObj}, softH l l' → l.length = l'.length ∧ ∀ (i : Nat) o o', l[i]? = some o → l'[i]? = some o' → softO o o'
  | [], [], _ => ⟨rfl, by simp⟩
  | [], _ :: _, h => h.elim
  | _ :: _, [], h => h.elim
  | o :: l, o' :: l', h => by
    obtain ⟨h1, h2⟩ := softH_get h.2
    refine ⟨by simp [h1], fun i a b ha hb => ?_⟩
    cases i with
    | zero => simp at ha hb; subst ha; subst hb; exact h.1
    | succ i => exact h2 i a b (by simpa using ha) (by simpa using hb)

section
variable {G : Stb} {base : Nat} {M : Nat → Prop} {w0 w : World} {hp hp' : List HObj} {bl : Nat → Option Nat} {rv : Nat → Value}

theorem soft_back (hs : softH hp hp') {i : Nat} {o' : HObj} (h : hp'[i]? = some o') : ∃ o, hp[i]? = some o ∧ softO o o' := by
  obtain ⟨h1, h2⟩ := softH_get hs
  have hlt : i < hp.length := by rw [h1]; exact (List.getElem?_eq_some_iff.1 h).1
  exact ⟨_, List.getElem?_eq_getElem hlt, h2 i _ _ (List.getElem?_eq_getElem hlt) h⟩
theorem soft_forth (hs : softH hp hp') {i : Nat} {o : HObj} (h : hp[i]? = some o) : ∃ o', hp'[i]? = some o' ∧ softO o o' := by
  obtain ⟨h1, h2⟩ := softH_get hs
  have hlt : i < hp'.length := by rw [← h1]; exact (List.getElem?_eq_some_iff.1 h).1
  exact ⟨_, List.getElem?_eq_getElem hlt, h2 i _ _ h (List.getElem?_eq_getElem hlt)⟩
theorem soft_row (hs : softH hp hp') {i e k ver : Nat} {es : List (List PV)} (h : hp'[i]? = some (.row e k ver es)) : ∃ e0 k0, hp[i]? = some (.row e0 k0 ver es) ∧ ((e0 = e ∧ k0 = k) ∨ (k0 = 0 ∧ es = [] ∧ 0 < k)) := by
  obtain ⟨o, ho, hso⟩ := soft_back hs h
  cases o with
  | box cs => exact hso.elim
  | row e0 k0 v0 es0 =>
    rcases hso with ⟨rfl, rfl, rfl, rfl⟩ | ⟨rfl, rfl, rfl, rfl, hk⟩
    · exact ⟨_, _, ho, .inl ⟨rfl, rfl⟩⟩
    · exact ⟨_, _, ho, .inr ⟨rfl, rfl, hk⟩⟩
theorem soft_row' (hs : softH hp hp') {i e k ver : Nat} {es : List (List PV)} (h : hp[i]? = some (.row e k ver es)) : ∃ e' k', hp'[i]? = some (.row e' k' ver es) ∧ ((e = e' ∧ k = k') ∨ (k = 0 ∧ es = [] ∧ 0 < k')) := by
  obtain ⟨o, ho, hso⟩ := soft_forth hs h
  cases o with
  | box cs => exact hso.elim
  | row e0 k0 v0 es0 =>
    rcases hso with ⟨rfl, rfl, rfl, rfl⟩ | ⟨rfl, rfl, rfl, rfl, hk⟩
    · exact ⟨_, _, ho, .inl ⟨rfl, rfl⟩⟩
    · exact ⟨_, _, ho, .inr ⟨rfl, rfl, hk⟩⟩
theorem soft_box (hs : softH hp hp') {i : Nat} {cs : List AV} : hp'[i]? = some (.box cs) ↔ hp[i]? = some (.box cs) := by
  constructor
  · intro h
    obtain ⟨o, ho, hso⟩ := soft_back hs h
    cases o with
    | box cs' => rw [ho, show cs' = cs from hso]
    | row e0 k0 v0 es0 => exact hso.elim
  · intro h
    obtain ⟨o, ho, hso⟩ := soft_forth hs h
    cases o with
    | box cs' => rw [ho, show cs = cs' from hso]
    | row e0 k0 v0 es0 => exact hso.elim

theorem RelH.nilrow (h : RelH G base M w0 hp bl rv w) {i e ver : Nat} (hr : hp[i]? = some (.row e 0 ver [])) : (rv i).ownBlock = none := by
  rcases h.row i _ _ _ _ hr with ⟨_, _, hv⟩ | ⟨hk, _⟩
  · rw [hv]; rfl
  · omega

theorem soft_cx (h : RelH G base M w0 hp bl rv w) (hs : softH hp hp') : cx G hp' bl rv w = cx G hp bl rv w := by
  have e1 : stb G hp' bl rv = stb G hp bl rv := by
    funext b o
    refine propext ⟨fun s => ⟨s.1, s.2.1, fun i e k ver es hr ho => ?_⟩, fun s => ⟨s.1, s.2.1, fun i e k ver es hr ho => ?_⟩⟩
    · obtain ⟨e', k', hr', hc⟩ := soft_row' hs hr
      rcases hc with ⟨rfl, rfl⟩ | ⟨rfl, rfl, _⟩
      · exact s.2.2 i _ _ _ _ hr' ho
      · rw [h.nilrow hr] at ho; cases ho
    · obtain ⟨e', k', hr', hc⟩ := soft_row hs hr
      rcases hc with ⟨rfl, rfl⟩ | ⟨rfl, rfl, _⟩
      · exact s.2.2 i _ _ _ _ hr' ho
      · rw [h.nilrow hr'] at ho; cases ho
  have e2 : rwOf hp' rv = rwOf hp rv := by
    funext i
    cases hi : hp[i]? with
    | none =>
      have hl := (softH_get hs).1
      have : hp'[i]? = none := by
        rw [List.getElem?_eq_none_iff] at hi ⊢
        omega
      simp [rwOf, hi, this]
    | some o =>
      cases o with
      | box cs => simp [rwOf, hi, (soft_box hs).2 hi]
      | row e k ver es =>
        obtain ⟨e', k', hr', _⟩ := soft_row' hs hi
        simp [rwOf, hi, hr']
  simp only [cx, e1, e2]

theorem RelH.soft (h : RelH G base M w0 hp bl rv w) (hs : softH hp hp') : RelH G base M w0 hp' bl rv w := by
  have hcx := soft_cx h hs
  refine ⟨h.fr, h.hG, h.hb, fun i cs hi => ?_, fun i e k ver es hr => ?_, fun i B hB => ?_, h.inj, fun i j e k v es e' k' v' es' b h1 h2 => ?_, fun i j e k v es B h1 => ?_, fun i cs hi => h.ng i cs ((soft_box hs).1 hi)⟩
  · rw [hcx]
    exact h.box i cs ((soft_box hs).1 hi)
  · obtain ⟨e', k', hr', hc⟩ := soft_row hs hr
    have h0 := h.row i _ _ _ _ hr'
    have hst : stb G hp' bl rv = stb G hp bl rv := congrArg Cx.S hcx
    rw [hst]
    rcases hc with ⟨rfl, rfl⟩ | ⟨rfl, rfl, hk⟩
    · exact h0
    · rcases h0 with ⟨_, _, hv⟩ | ⟨h0, _⟩
      · rw [hv]
        exact .inr ⟨hk, [], World.ownsRow_nil _ _ _ _, by simp, by simp, by simp⟩
      · omega
  · obtain ⟨cs, hcs⟩ := h.only i B hB
    exact ⟨cs, (soft_box hs).2 hcs⟩
  · obtain ⟨_, _, h1', _⟩ := soft_row hs h1
    obtain ⟨_, _, h2', _⟩ := soft_row hs h2
    exact h.rinj i j _ _ _ _ _ _ _ _ b h1' h2'
  · obtain ⟨_, _, h1', _⟩ := soft_row hs h1
    exact h.brow i j _ _ _ _ B h1'
end

/-- Forget, and say less. -/
theorem weak_of {tm' : Nat → AV} {hp' : List HObj} {n : Nat} (hn : m0 ≤ n) (hl : n ≤ σ.hp.length) (hs : softH (cutH n σ.hp) hp') (ht : ∀ t, tm' t = .dead ∨ softA (fun i => σ.hp[i]?) n (σ.tm t) (tm' t)) : Weak m0 nt σ ⟨tm', hp'⟩ := by
  intro G base M w0 C0 a w ⟨bl, rv, hR⟩
  have hk := hR.keep hn hl []
  have hcx := soft_cx hk.H hs
  have hsl := softH_get hs
  refine ⟨blCut bl n, rv, hk.H.soft hs, ?_, ?_, hk.dbl, hk.drw, hk.sz, fun t htn => ?_, hk.df⟩
  · simp only
    rw [hcx]; exact hk.org
  · simp only
    rw [← hsl.1]; exact hk.len
  · simp only
    rw [hcx]
    rcases ht t with h | h
    · rw [h]; exact .dead
    · have h0 := hR.slots t htn
      have hc := h0.cut (n := n)
      simp only [St.keep]
      generalize tm' t = v at *
      unfold softA at h
      split at h
      · rename_i p
        split at h
        · rename_i r u hx
          rw [hx] at h0
          obtain ⟨q, h, hs⟩ := h
          have hd := hR.H.demC h0 h
          exact .p (C := cx G (cutH n σ.hp) (blCut bl n) rv w) (hd.cut.softP hs)
        · rename_i q hx
          rw [hx] at hc
          exact .p (C := cx G (cutH n σ.hp) (blCut bl n) rv w) (RepP.softP hc.pv h)
        · exact h.elim
      · rw [h] at hc; exact hc

def loopQ (m0 nt : Nat) (I : Nat → St → Prop) (g : Nat) (Q : Exit → St → Prop) : Exit → St → Prop
  | .normal, σ => ∃ g' σ', g' < g ∧ Weak m0 nt σ σ' ∧ I g' σ'
  | e, σ => Q e σ

/-- A loop: what holds at its head, with a number that each round lowers. -/
theorem aw_loop {c : Code} (I : Nat → St → Prop) (g : Nat) (σ0 : St) (hw : Weak m0 nt σ σ0) (h0 : I g σ0) (round : ∀ g σ, I g σ → AW P nt m0 c (loopQ m0 nt I g Q) σ) : AW P nt m0 (.loop c) Q σ := by
  intro G base M w0 C0 a w hR
  intro b k cs
  have key : ∀ g a w σ, I g σ → Rl G base M w0 C0 m0 nt σ a w →
      ∃ e a' w', LQ G base M w0 C0 m0 nt Q e a' w' ∧ Arrives P (lone (b.at a (.code c :: .inLoop c :: k)) cs w) b k cs e a' w' := by
    intro g
    induction g using Nat.strongRecOn with
    | _ g ih =>
      intro a w σ hI hR
      obtain ⟨e, a₁, w₁, hq, harr⟩ := round g σ hI G base M w0 C0 a w hR b (.inLoop c :: k) cs
      obtain ⟨σ₁, hR₁, hq⟩ := hq
      cases e with
      | normal =>
        obtain ⟨g', σ', hlt, hw', hI₁⟩ := hq
        obtain ⟨e₂, a₂, w₂, hq₂, harr₂⟩ := ih g' hlt a₁ w₁ _ hI₁ (hw' _ _ _ _ _ _ _ hR₁)
        exact ⟨e₂, a₂, w₂, hq₂, .of_steps (Steps.trans harr (.one step_inLoop)) harr₂⟩
      | exit id => exact ⟨_, a₁, w₁, ⟨σ₁, hR₁, hq⟩, .pass (x := .inLoop c) rfl (fun _ _ => .inl (by simp)) harr⟩
      | goto l => exact ⟨_, a₁, w₁, ⟨σ₁, hR₁, hq⟩, .pass (x := .inLoop c) rfl (fun _ _ => .inl (by simp)) harr⟩
      | ret => exact ⟨_, a₁, w₁, ⟨σ₁, hR₁, hq⟩, .pass (x := .inLoop c) rfl (fun _ _ => .inl (by simp)) harr⟩
      | panic ch => exact ⟨_, a₁, w₁, ⟨σ₁, hR₁, hq⟩, .pass (x := .inLoop c) rfl (fun _ _ => .inl (by simp)) harr⟩
      | outgrown => exact ⟨_, a₁, w₁, ⟨σ₁, hR₁, hq⟩, .pass (x := .inLoop c) rfl (fun _ _ => .inl (by simp)) harr⟩
  obtain ⟨e, a', w', hq, harr⟩ := key g a w _ h0 (hw _ _ _ _ _ _ _ hR)
  exact ⟨e, a', w', hq, .of_steps (.one step_loop) harr⟩

/-- A goto back to a label of its scope: as a round of a loop. -/
def gotoQ (m0 nt : Nat) (I : Nat → St → Prop) (ok : Nat → Prop) (l : Nat) (Q : Exit → St → Prop) : Exit → St → Prop
  | .goto l', σ => l' = l ∧ ∃ g σ', ok g ∧ Weak m0 nt σ σ' ∧ I g σ'
  | e, σ => Q e σ

theorem aw_scope {c rest : Code} {l : Nat} (hfl : findLabel c l = some rest) (I : Nat → St → Prop) (h : AW P nt m0 c (gotoQ m0 nt I (fun _ => True) l Q) σ)
    (round : ∀ g σ, I g σ → AW P nt m0 rest (gotoQ m0 nt I (· < g) l Q) σ) : AW P nt m0 (.scope c) Q σ := by
  intro G base M w0 C0 a w hR
  intro b k cs
  have hgo : gotoIn l (.inScope c :: k) = some (.code rest :: .inScope c :: k) := by simp [gotoIn, hfl]
  have key : ∀ g a w σ, I g σ → Rl G base M w0 C0 m0 nt σ a w →
      ∃ e a' w', LQ G base M w0 C0 m0 nt Q e a' w' ∧ Arrives P (lone (b.at a (.code rest :: .inScope c :: k)) cs w) b k cs e a' w' := by
    intro g
    induction g using Nat.strongRecOn with
    | _ g ih =>
      intro a w σ hI hR
      obtain ⟨e, a₁, w₁, hq, harr⟩ := round g σ hI G base M w0 C0 a w hR b (.inScope c :: k) cs
      obtain ⟨σ₁, hR₁, hq⟩ := hq
      cases e with
      | normal => exact ⟨.normal, a₁, w₁, ⟨σ₁, hR₁, hq⟩, Steps.trans harr (.one step_inScope)⟩
      | exit id => exact ⟨.exit id, a₁, w₁, ⟨σ₁, hR₁, hq⟩, fun k' hk => harr k' (by simp [exitTo, hk])⟩
      | goto l' =>
        obtain ⟨rfl, g', σ', hlt, hw', hI₁⟩ := hq
        obtain ⟨e₂, a₂, w₂, hq₂, harr₂⟩ := ih g' hlt a₁ w₁ _ hI₁ (hw' _ _ _ _ _ _ _ hR₁)
        exact ⟨e₂, a₂, w₂, hq₂, .of_steps (harr _ hgo) harr₂⟩
      | ret => exact ⟨_, a₁, w₁, ⟨σ₁, hR₁, hq⟩, harr⟩
      | panic ch => exact ⟨_, a₁, w₁, ⟨σ₁, hR₁, hq⟩, harr⟩
      | outgrown => exact ⟨_, a₁, w₁, ⟨σ₁, hR₁, hq⟩, harr⟩
  obtain ⟨e, a₁, w₁, hq, harr⟩ := h G base M w0 C0 a w hR b (.inScope c :: k) cs
  obtain ⟨σ₁, hR₁, hq⟩ := hq
  cases e with
  | normal => exact ⟨.normal, a₁, w₁, ⟨σ₁, hR₁, hq⟩, .head step_scope (Steps.trans harr (.one step_inScope))⟩
  | exit id => exact ⟨.exit id, a₁, w₁, ⟨σ₁, hR₁, hq⟩, fun k' hk => .head step_scope (harr k' (by simp [exitTo, hk]))⟩
  | goto l' =>
    obtain ⟨rfl, g', σ', _, hw', hI₁⟩ := hq
    obtain ⟨e₂, a₂, w₂, hq₂, harr₂⟩ := key g' a₁ w₁ _ hI₁ (hw' _ _ _ _ _ _ _ hR₁)
    exact ⟨e₂, a₂, w₂, hq₂, .of_steps (.head step_scope (harr _ hgo)) harr₂⟩
  | ret => exact ⟨_, a₁, w₁, ⟨σ₁, hR₁, hq⟩, .of_steps (.one step_scope) harr⟩
  | panic ch => exact ⟨_, a₁, w₁, ⟨σ₁, hR₁, hq⟩, .of_steps (.one step_scope) harr⟩
  | outgrown => exact ⟨_, a₁, w₁, ⟨σ₁, hR₁, hq⟩, .of_steps (.one step_scope) harr⟩

/-- What a function hands back. -/
def aresV (E : Env) (σ : St) : ResultVar → Option (AV × Prop)
  | .tmp t => some (σ.tm t, True)
  | .cell b t => (aLoad E (fun i => σ.hp[i]?) t (σ.tm b)).map fun r => (r.v, r.vc)

def ares (E : Env) (σ : St) : List ResultVar → Option (List AV × Prop)
  | [] => some ([], True)
  | x :: l =>
    match aresV E σ x, ares E σ l with
    | some (v, p), some (vs, q) => some (v :: vs, (p ∧ q))
    | _, _ => none

def resIn (nt : Nat) (l : List ResultVar) : Bool := l.all fun | .tmp t => decide (t < nt) | .cell b _ => decide (b < nt)

def one (xs : List PV) : PV := match xs with | [x] => x | xs => .tup xs
def oneA (xs : List AV) : AV := match xs with | [x] => x | xs => .tup xs
def oneV (vs : List Value) : Value := match vs with | [v] => v | vs => .tuple vs.toArray

def resOne (a : Act) : ResultVar → Sem Value
  | .tmp t => pure (a.tmps.getD t undef)
  | .cell b t => do loadVar t (← asAddr (a.tmps.getD b undef))

theorem ares_run (hE : EnvOk P E) {G : Stb} {base : Nat} {M : Nat → Prop} {w0 w : World} {C0 : Cx} {a : Act} {bl : Nat → Option Nat} {rv : Nat → Value} (h : Rel G base M w0 C0 m0 nt σ bl rv a w) : ∀ (l : List ResultVar) (vs : List AV) (p : Prop),
    resIn nt l = true → ares E σ l = some (vs, p) → p → ∃ us, (l.mapM (resOne a)).run P w = .ok us w ∧ Reps (RepA (cx G σ.hp bl rv w)) us vs
  | [], vs, p, _, hs, _ => by
    simp only [ares, Option.some.injEq, Prod.mk.injEq] at hs
    obtain ⟨rfl, rfl⟩ := hs
    exact ⟨[], by simp, Reps.nil⟩
  | x :: l, vs, p, hin, hs, hp => by
    simp only [resIn, List.all_cons, Bool.and_eq_true] at hin
    simp only [ares] at hs
    split at hs
    · rename_i v p1 vs' p2 h1 h2
      simp only [Option.some.injEq, Prod.mk.injEq] at hs
      obtain ⟨rfl, rfl⟩ := hs
      obtain ⟨us, hus, hrus⟩ := ares_run hE h l vs' p2 hin.2 h2 hp.2
      have hx : ∃ u, (resOne a x).run P w = .ok u w ∧ RepA (cx G σ.hp bl rv w) u v := by
        cases x with
        | tmp t =>
          simp [aresV] at h1
          obtain ⟨rfl, _⟩ := h1
          exact ⟨_, by simp [resOne], h.slots t (by simpa using hin.1)⟩
        | cell b t =>
          simp only [aresV] at h1
          obtain ⟨r, hr, he⟩ := Option.map_eq_some_iff.1 h1
          simp only [Prod.mk.injEq] at he
          obtain ⟨rfl, rfl⟩ := he
          have hslot := h.slots b (by simpa using hin.1)
          obtain ⟨u, hu, hrep, _, _⟩ := load_run (P := P) hE h.H hslot hr hp.1
          refine ⟨u, ?_, hrep⟩
          show (do loadVar t (← asAddr (a.tmps.getD b undef)) : Sem Value).run P w = .ok u w
          generalize a.tmps.getD b undef = sv at hslot hu ⊢
          cases hp' : σ.tm b <;> rw [hp'] at hslot hr <;> simp [aLoad] at hr
          all_goals (cases hslot; simpa [Instr.loadAt, Instr.sureAddr, asAddr] using hu)
      obtain ⟨u, hu, hrep⟩ := hx
      refine ⟨u :: us, ?_, .cons hrep hrus⟩
      simp only [List.mapM_cons, Sem.run_bind, hu, Result.andThen_ok, hus, Sem.run_pure]
    · cases hs

theorem results_run (hE : EnvOk P E) {G : Stb} {base : Nat} {M : Nat → Prop} {w0 w : World} {C0 : Cx} {a : Act} {bl : Nat → Option Nat} {rv : Nat → Value} (h : Rel G base M w0 C0 m0 nt σ bl rv a w) (fn : Func) {vs : List AV} {p : Prop}
    (hin : resIn nt fn.results.toList = true) (hs : ares E σ fn.results.toList = some (vs, p)) (hp : p) : ∃ us, (results fn a.tmps).run P w = .ok (oneV us) w ∧ Reps (RepA (cx G σ.hp bl rv w)) us vs := by
  obtain ⟨us, hus, hr⟩ := ares_run hE h _ _ _ hin hs hp
  refine ⟨us, ?_, hr⟩
  have key : ∀ F : ResultVar → Sem Value, (∀ x, F x = resOne a x) → (do
      let vs ← List.toArray <$> fn.results.toList.mapM F
      pure (if h : vs.size = 1 then vs[0] else .tuple vs) : Sem Value).run P w = .ok (oneV us) w := by
    intro F hF
    obtain rfl : F = resOne a := funext hF
    have : (List.toArray <$> (fn.results.toList.mapM (resOne a))).run P w = .ok us.toArray w := by
      simp [hus]
    simp only [Sem.run_bind]
    rw [this]
    simp only [Result.andThen_ok, Sem.run_pure]
    congr 1
    match us with
    | [] => rfl
    | [u] => rfl
    | u :: u' :: us =>
      rw [dif_neg (by simp)]
      rfl
  unfold results
  rw [Array.mapM_eq_mapM_toList]
  exact key _ (fun x => by cases x <;> rfl)

/-- The state at a function's head. -/
def slotsOf (xs : List AV) : Nat → AV := fun t => xs.getD t .dead

/-- What must hold where a plain function ends. -/
def EndP (E : Env) (rs : List ResultVar) (y : PV) : Exit → St → Prop := fun e σ =>
  (e = .normal ∨ e = .ret) ∧ ∃ vs p xs, ares E σ rs = some (vs, p) ∧ p ∧ demAll (fun i => σ.hp[i]?) vs = some xs ∧ one xs = y

theorem one_rep {S : Stb} {w : World} {us : List Value} {xs : List PV} (h : Reps (RepP S w) us xs) : RepP S w (oneV us) (one xs) := by
  unfold oneV one
  match us, xs, h.1 with
  | [], [], _ => exact .tup h.1 h.2
  | [u], [x], _ => exact h.2 0 u x rfl rfl
  | u :: u' :: us, x :: x' :: xs, _ => exact .tup h.1 h.2

theorem oneA_rep {C : Cx} {us : List Value} {xs : List AV} (h : Reps (RepA C) us xs) : RepA C (oneV us) (oneA xs) := by
  unfold oneV oneA
  match us, xs, h.1 with
  | [], [], _ => exact .tup h.1 h.2
  | [u], [x], _ => exact h.2 0 u x rfl rfl
  | u :: u' :: us, x :: x' :: xs, _ => exact .tup h.1 h.2

theorem slots_init {C : Cx} {vs : List Value} {xs : List AV} (h : Reps (RepA C) vs xs) (nt : Nat) (hnt : vs.length ≤ nt) :
    (vs.toArray ++ Array.replicate (nt - vs.toArray.size) undef).size = nt ∧ ∀ t, t < nt → RepA C ((vs.toArray ++ Array.replicate (nt - vs.toArray.size) undef).getD t undef) (slotsOf xs t) := by
  refine ⟨by simp; omega, fun t ht => ?_⟩
  unfold slotsOf
  rw [Array.getD_eq_getD_getElem?]
  rcases Nat.lt_or_ge t vs.length with hlt | hge
  · rw [Array.getElem?_append_left (by simpa using hlt)]
    have hlt' : t < xs.length := by rw [← h.1]; exact hlt
    simp only [List.getD, List.getElem?_eq_getElem hlt', Option.getD_some]
    simp only [List.getElem?_toArray, List.getElem?_eq_getElem hlt, Option.getD_some]
    exact h.2 t _ _ (List.getElem?_eq_getElem hlt) (List.getElem?_eq_getElem hlt')
  · have : xs.getD t .dead = .dead := by
      simp only [List.getD, List.getElem?_eq_none (show xs.length ≤ t by rw [← h.1]; exact hge), Option.getD_none]
    rw [this]
    exact .dead

/-- **A plain function's contract, out of a walk in the abstract.** -/
theorem pureC_of (hE : EnvOk P E) {f : FuncId} {fn : Func} {c : Code} (hf : P.funcs[f]? = some fn) (hb : fn.body = some c) (hin : resIn fn.ntmps fn.results.toList = true) {s : List PV → Option PV}
    (har : ∀ xs y, s xs = some y → xs.length ≤ fn.ntmps)
    (h : ∀ xs y, s xs = some y → AW P fn.ntmps 0 c (EndP E fn.results.toList y) { tm := slotsOf (xs.map .p), hp := [] }) : PureC P f s := by
  intro S w vs xs y hS hr hy
  refine calls_of_wp hf hb ?_
  have hmono : ∀ {v x}, RepP S w v x → RepP (stb S [] (fun _ => none) (fun _ => undef)) w v x := fun h => h.mono fun b o u s c => ⟨⟨s, by simp, by simp⟩, c⟩
  have hH : RelH S w.heap.size (fun _ => False) w [] (fun _ => none) (fun _ => undef) w :=
    ⟨.refl _ _ _, hS, Nat.le_refl _, by simp, by simp, by simp, by simp, by simp, by simp, by simp⟩
  have hrA : Reps (RepA (cx S [] (fun _ => none) (fun _ => undef) w)) vs (xs.map .p) := by
    refine ⟨by simpa using hr.1, fun i v x hv hx => ?_⟩
    obtain ⟨x0, hx0, rfl⟩ := map_getElem? _ _ _ _ hx
    exact .p (hmono (hr.2 i v x0 hv hx0))
  obtain ⟨hsz, hsl⟩ := slots_init hrA fn.ntmps (by rw [hr.1]; exact har xs y hy)
  have hR : Rel S w.heap.size (fun _ => False) w ⟨fun _ _ => False, w, fun _ => none, fun _ => none⟩ 0 fn.ntmps { tm := slotsOf (xs.map .p), hp := [] } (fun _ => none) (fun _ => undef)
      { tmps := vs.toArray ++ Array.replicate (fn.ntmps - vs.toArray.size) undef, defers := [] } w :=
    ⟨hH, ⟨fun b o u s => s.elim, by simp, by simp⟩, Nat.le_refl _, by simp, by simp, hsz, hsl, rfl⟩
  refine wp_mono (h xs y hy S w.heap.size (fun _ => False) w _ _ w ⟨_, _, hR⟩) fun e a' w' ⟨σ, ⟨bl, rv, hR'⟩, he, us, p, ys, h1, h2, h3, h4⟩ => ?_
  obtain ⟨ws, hrun, hreps⟩ := results_run hE hR' fn hin h1 h2
  have hd := hR'.H.demAll hreps h3
  have hb : Bel w.heap.size w w' := ⟨⟨hR'.H.fr.os, hR'.H.fr.tape, hR'.H.fr.output, hR'.H.fr.size, fun k hk => hR'.H.fr.block k hk (fun h => h)⟩, hR'.H.fr.drawn⟩
  have hfin : RepP S w' (oneV ws) y := by
    rw [← h4]
    exact (one_rep hd).mono fun b o u s c => ⟨s.1, c⟩
  rcases he with rfl | rfl <;> exact ⟨hR'.df, _, hrun, _, rfl, hb, hfin⟩

/-- Memory that is closed in itself. -/
theorem RepA.closed {C : Cx} {n : Nat} (hb : ∀ b B, C.bl b = some B → b < n) (hr : ∀ r x, C.rw_ r = some x → r < n) {v : Value} {x : AV} (h : RepA C v x) : x.ng = true → x.cut n = x := by
  induction h with
  | p h => intro; rfl
  | own h => intro; simp only [AV.cut]; rw [if_pos (hr _ _ h)]
  | agg hl h1 hh ih =>
    rename_i vs cs
    intro hg
    simp only [AV.ng, ngL_all, List.all_eq_true] at hg
    simp only [AV.cut, cutL_eq]
    congr 1
    refine (List.map_congr_left (fun c hc => ?_)).trans (List.map_id _)
    obtain ⟨i, hi⟩ := List.getElem?_of_mem hc
    have hlt : i < vs.length := by rw [hl]; exact (List.getElem?_eq_some_iff.1 hi).1
    exact ih i _ c (List.getElem?_eq_getElem hlt) hi (hg c hc)
  | ptr h => intro; simp only [AV.cut]; rw [if_pos (hb _ _ h)]
  | bsl h => intro; simp only [AV.cut]; rw [if_pos (hb _ _ h)]
  | elt => intro; rfl
  | fn hl hh ih =>
    rename_i f vs cs
    intro hg
    simp only [AV.ng, ngL_all, List.all_eq_true] at hg
    simp only [AV.cut, cutL_eq]
    congr 1
    refine (List.map_congr_left (fun c hc => ?_)).trans (List.map_id _)
    obtain ⟨i, hi⟩ := List.getElem?_of_mem hc
    have hlt : i < vs.length := by rw [hl]; exact (List.getElem?_eq_some_iff.1 hi).1
    exact ih i _ c (List.getElem?_eq_getElem hlt) hi (hg c hc)
  | tup hl hh ih =>
    rename_i vs cs
    intro hg
    simp only [AV.ng, ngL_all, List.all_eq_true] at hg
    simp only [AV.cut, cutL_eq]
    congr 1
    refine (List.map_congr_left (fun c hc => ?_)).trans (List.map_id _)
    obtain ⟨i, hi⟩ := List.getElem?_of_mem hc
    have hlt : i < vs.length := by rw [hl]; exact (List.getElem?_eq_some_iff.1 hi).1
    exact ih i _ c (List.getElem?_eq_getElem hlt) hi (hg c hc)
  | grd ht hf ih => intro hg; simp [AV.ng] at hg
  | dead => intro; rfl

theorem RelH.closed {G : Stb} {base : Nat} {M : Nat → Prop} {w0 w : World} {hp : List HObj} {bl : Nat → Option Nat} {rv : Nat → Value} (h : RelH G base M w0 hp bl rv w) : cutH hp.length hp = hp := by
  unfold cutH
  rw [List.take_length]
  refine (List.map_congr_left (fun o ho => ?_)).trans (List.map_id _)
  obtain ⟨i, hi⟩ := List.getElem?_of_mem ho
  cases o with
  | row e k v es => rfl
  | box cs =>
    simp only [HObj.cut, cutL_eq]
    congr 1
    obtain ⟨B, arr, e, h1, h2, h3, h4, h5⟩ := h.box i cs hi
    refine (List.map_congr_left (fun c hc => ?_)).trans (List.map_id _)
    obtain ⟨j, hj⟩ := List.getElem?_of_mem hc
    have hlt : j < arr.size := Nat.lt_of_lt_of_le (List.getElem?_eq_some_iff.1 hj).1 h3
    refine RepA.closed (C := cx G hp bl rv w) (fun b B hb => (h.bl_lt hb).2) (fun r x hx => ?_) (h4 j arr[j] c (by simp [hlt]) hj).2 (h.ng i cs hi c hc)
    obtain ⟨ver, v⟩ := x
    obtain ⟨_, e', k, es, hr⟩ := rwOf_some hx
    exact (List.getElem?_eq_some_iff.1 hr).1

/-- What must hold where a function on the caller's memory ends. -/
def EndH (E : Env) (rs : List ResultVar) (hp : List HObj) (r : Res) : Exit → St → Prop := fun e σ =>
  (e = .normal ∨ e = .ret) ∧ ∃ vs p, ares E σ rs = some (vs, p) ∧ p ∧ (r.app hp).length ≤ σ.hp.length ∧ cutH (r.app hp).length σ.hp = r.app hp ∧ (oneA vs).cut (r.app hp).length = r.v

theorem heapC_of (hE : EnvOk P E) {f : FuncId} {fn : Func} {c : Code} (hf : P.funcs[f]? = some fn) (hb : fn.body = some c) (hin : resIn fn.ntmps fn.results.toList = true) {s : HFn}
    (har : ∀ xs len h r, s xs len h = some r → xs.length ≤ fn.ntmps)
    (h : ∀ xs hp r, s xs hp.length (fun i => hp[i]?) = some r → r.vc → cutH hp.length hp = hp → AW P fn.ntmps hp.length c (EndH E fn.results.toList hp r) { tm := slotsOf xs, hp := hp }) : HeapC P f s := by
  intro G base M w0 hp bl rv w vs xs r hH hr hs hvc
  refine calls_of_wp hf hb ?_
  obtain ⟨hsz, hsl⟩ := slots_init hr fn.ntmps (by rw [hr.1]; exact har _ _ _ _ hs)
  have hR : Rel G base M w0 (cx G hp bl rv w) hp.length fn.ntmps { tm := slotsOf xs, hp := hp } bl rv { tmps := vs.toArray ++ Array.replicate (fn.ntmps - vs.toArray.size) undef, defers := [] } w :=
    ⟨hH, .refl _, Nat.le_refl _, fun b B hB => (hH.bl_lt hB).2, fun b x hx => by
      obtain ⟨ver, v⟩ := x
      obtain ⟨_, e', k, es, hr⟩ := rwOf_some hx
      exact (List.getElem?_eq_some_iff.1 hr).1, hsz, hsl, rfl⟩
  refine wp_mono (h xs hp r hs hvc hH.closed G base M w0 _ _ w ⟨_, _, hR⟩) fun e a' w' ⟨σ, ⟨bl', rv', hR'⟩, he, us, p, h1, h2, h3, h4, h5⟩ => ?_
  obtain ⟨ws, hrun, hreps⟩ := results_run hE hR' fn hin h1 h2
  have hn : hp.length ≤ (r.app hp).length := by simp only [Res.app, List.length_append, setMany_length]; omega
  have hcut := hR'.H.cut (r.app hp).length
  rw [h4] at hcut
  have hle : (cx G hp bl rv w).le (cx G (r.app hp) (blCut bl' (r.app hp).length) rv' w') := by
    refine ⟨fun b o u s c => ?_, fun b B hB => ?_, fun q ver val hq => ?_⟩
    · obtain ⟨k1, k2⟩ := hR'.org.w b o u s c
      have := stb_cut (n := (r.app hp).length) k1
      rw [h4] at this
      exact ⟨this, k2⟩
    · have := hR'.org.bl b B hB
      simp only [cx, blCut]
      rw [if_pos (Nat.lt_of_lt_of_le (hR'.dbl b B hB) hn)]
      exact this
    · obtain ⟨ver', val', k1, k2, k3⟩ := hR'.org.rw_ q ver val hq
      have hlt := Nat.lt_of_lt_of_le (hR'.drw q _ hq) hn
      simp only [cx] at k1 ⊢
      obtain ⟨hv, e, k, es, hrow⟩ := rwOf_some k1
      refine ⟨ver', val', ?_, k2, k3⟩
      rw [← h4]
      rw [rwOf_row (cutH_get_row hrow hlt), hv]
  have hres := (oneA_rep hreps).cut (n := (r.app hp).length)
  rw [h4, h5] at hres
  rcases he with rfl | rfl <;> exact ⟨hR'.df, _, hrun, _, _, _, rfl, hcut, hle, hres⟩

end
end Go.Proofs.Av
