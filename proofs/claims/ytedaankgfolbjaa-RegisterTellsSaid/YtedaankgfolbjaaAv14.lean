/- A region that draws its order: the order of the text serves every order. -/
import Derived.Test.YtedaankgfolbjaaAv13
import Derived.Still
set_option linter.unusedVariables false
set_option linter.unusedSimpArgs false
namespace Go.Proofs.Av
open Go.RowKit

def ni (f g : Foot) : Bool := (f.wr.all fun i => !(g.rd.contains i) && !(g.wr.contains i)) && (f.rd.all fun i => !(g.wr.contains i)) && !(f.al && g.al)

theorem ni_spec {f g : Foot} (h : ni f g = true) : (∀ i ∈ f.wr, i ∉ g.rd) ∧ (∀ i ∈ f.wr, i ∉ g.wr) ∧ (∀ i ∈ f.rd, i ∉ g.wr) ∧ ¬ (f.al = true ∧ g.al = true) := by
  unfold ni at h
  simp only [Bool.and_eq_true, List.all_eq_true, Bool.not_eq_true'] at h
  obtain ⟨⟨h1, h2⟩, h3⟩ := h
  refine ⟨fun i hi hc => ?_, fun i hi hc => ?_, fun i hi hc => ?_, fun ⟨a, b⟩ => ?_⟩
  · have := (h1 i hi).1; simp [hc] at this
  · have := (h1 i hi).2; simp [hc] at this
  · have := h2 i hi; simp [hc] at this
  · simp [a, b] at h3

theorem setMany_get {i : Nat} : ∀ (l : List (Nat × HObj)) (hp : List HObj), i ∉ l.map (·.1) → (setMany hp l)[i]? = hp[i]?
  | [], hp, _ => rfl
  | (j, o) :: l, hp, h => by
    simp at h
    simp only [setMany]
    rw [setMany_get l _ (by simpa using h.2), List.getElem?_set_ne (fun e => h.1 e.symm)]

theorem setMany_append : ∀ (l : List (Nat × HObj)) (A B : List HObj), (∀ q ∈ l, q.1 < A.length) → setMany (A ++ B) l = setMany A l ++ B
  | [], A, B, _ => rfl
  | (j, o) :: l, A, B, h => by
    simp only [setMany]
    rw [List.set_append_left _ _ (h (j, o) (by simp)), setMany_append l _ _ (fun q hq => by simpa using h q (by simp [hq]))]

theorem setMany_set (l : List (Nat × HObj)) : ∀ (hp : List HObj) (j : Nat) (o : HObj), j ∉ l.map (·.1) → setMany (hp.set j o) l = (setMany hp l).set j o := by
  induction l with
  | nil => intro hp j o _; rfl
  | cons q l ih =>
    intro hp j o h
    simp at h
    simp only [setMany]
    rw [List.set_comm _ _ (fun e => h.1 e), ih _ _ _ (by simpa using h.2)]

theorem setMany_comm : ∀ (l m : List (Nat × HObj)) (hp : List HObj), (∀ i ∈ l.map (·.1), i ∉ m.map (·.1)) → setMany (setMany hp l) m = setMany (setMany hp m) l
  | [], m, hp, _ => rfl
  | (j, o) :: l, m, hp, h => by
    simp only [setMany]
    rw [setMany_comm l m _ (fun i hi => h i (by simp at hi ⊢; exact .inr hi)), setMany_set m hp j o (h j (by simp))]

section
variable {P : Program} {E : Env} {ops : Array Oper} {nt : Nat}

/-- What one step makes of the memory. -/
def stepH (c : Bool) (r : Res) (hp : List HObj) : List HObj := bif r.wr.isEmpty && r.nw.isEmpty then hp else (bif c then r.app hp else hp)
def stepV (g : Option (Nat × Bool)) (c : Bool) (r : Res) : AV := bif r.wr.isEmpty && r.nw.isEmpty then gv g c r.v else (bif c then r.v else .dead)
def stepW (c : Bool) (r : Res) (n : Nat) : List Nat := bif r.wr.isEmpty && r.nw.isEmpty then [] else (bif c then r.wr.map (·.1) ++ List.range' n r.nw.length else [])
def stepC (c : Bool) (r : Res) (g : Bool) : Prop := bif r.wr.isEmpty && r.nw.isEmpty then (c = true → g = true ∧ r.vc) else (bif c then (g = true ∧ r.vc) else True)

theorem stepR_eq (o : Oper) (c : Bool) (σ : St) (r : Res) : stepR E o c σ r =
    ({ tm := upd σ.tm o.dst (stepV o.guard c r), hp := stepH c r σ.hp }, stepC c r (gop σ o.op), { rd := r.rd, wr := stepW c r σ.hp.length, al := r.al }) := by
  unfold stepR stepV stepH stepW stepC
  by_cases hemp : (r.wr.isEmpty && r.nw.isEmpty) = true
  · rw [hemp]; rfl
  · have : (r.wr.isEmpty && r.nw.isEmpty) = false := by simpa using hemp
    rw [this]
    cases c <;> rfl

theorem stepH_get {c : Bool} {r : Res} {hp : List HObj} {i : Nat} (h : i ∉ stepW c r hp.length) : (stepH c r hp)[i]? = hp[i]? := by
  unfold stepH
  unfold stepW at h
  by_cases hemp : (r.wr.isEmpty && r.nw.isEmpty) = true
  · rw [hemp]; rfl
  · have : (r.wr.isEmpty && r.nw.isEmpty) = false := by simpa using hemp
    rw [this] at h ⊢
    cases c with
    | false => rfl
    | true =>
      simp only [cond_false, cond_true, List.mem_append, not_or] at h ⊢
      unfold Res.app
      rcases Nat.lt_or_ge i hp.length with hlt | hge
      · rw [List.getElem?_append_left (by rw [setMany_length]; exact hlt), setMany_get _ _ h.1]
      · have : hp[i]? = none := List.getElem?_eq_none hge
        rw [this]
        refine List.getElem?_eq_none ?_
        rw [List.length_append, setMany_length]
        have h2 := h.2
        rw [List.mem_range'_1] at h2
        omega

theorem stepH_length {c : Bool} {r : Res} {hp : List HObj} (h : r.nw = []) : (stepH c r hp).length = hp.length := by
  unfold stepH
  cases (r.wr.isEmpty && r.nw.isEmpty) <;> cases c <;> simp [Res.app, setMany_length, h]

theorem stepW_length {c : Bool} {r : Res} {n m : Nat} (h : r.nw = [] ∨ n = m) : stepW c r n = stepW c r m := by
  rcases h with h | rfl
  · unfold stepW; simp [h]
  · rfl

theorem stepH_comm {c1 c2 : Bool} {r1 r2 : Res} {hp : List HObj} (hn : r1.nw = [] ∨ r2.nw = []) (h1 : ∀ q ∈ r1.wr, q.1 < hp.length) (h2 : ∀ q ∈ r2.wr, q.1 < hp.length)
    (hd : ∀ i ∈ stepW c1 r1 hp.length, i ∉ stepW c2 r2 hp.length) : stepH c2 r2 (stepH c1 r1 hp) = stepH c1 r1 (stepH c2 r2 hp) := by
  unfold stepH
  unfold stepW at hd
  by_cases e1 : (r1.wr.isEmpty && r1.nw.isEmpty) = true
  · simp only [e1, cond_true]
  · by_cases e2 : (r2.wr.isEmpty && r2.nw.isEmpty) = true
    · simp only [e2, cond_true]
    · have e1' : (r1.wr.isEmpty && r1.nw.isEmpty) = false := by simpa using e1
      have e2' : (r2.wr.isEmpty && r2.nw.isEmpty) = false := by simpa using e2
      rw [e1', e2'] at hd ⊢
      cases c1 <;> cases c2 <;> simp only [cond_false, cond_true] at hd ⊢
      unfold Res.app
      rw [setMany_append _ _ _ (fun q hq => by rw [setMany_length]; exact h2 q hq), setMany_append _ _ _ (fun q hq => by rw [setMany_length]; exact h1 q hq)]
      rw [setMany_comm r1.wr r2.wr hp (fun i hi hj => hd i (by simp at hi ⊢; exact .inl hi) (by simp at hj ⊢; exact .inl hj))]
      rcases hn with hn | hn <;> simp [hn]

theorem upd_comm {tm : Nat → AV} {d e : Option Tmp} {x y : AV} (h : ∀ t, d = some t → e ≠ some t) : upd (upd tm d x) e y = upd (upd tm e y) d x := by
  cases d <;> cases e <;> simp only [upd]
  rename_i d e
  have hne : d ≠ e := fun h' => h d rfl (by rw [h'])
  funext t
  by_cases h1 : t = d
  · subst h1
    simp [hne]
  · simp [h1]

theorem upd_ne {tm : Nat → AV} {d : Option Tmp} {x : AV} {t : Nat} (h : d ≠ some t) : upd tm d x t = tm t := by
  cases d with
  | none => rfl
  | some d => simp only [upd]; rw [if_neg (fun e => h (by rw [e]))]

/-- Two steps that do not touch. -/
theorem astep_swap (hE : EnvOk P E) {oi oj : Oper} {σ σ1 σ2 : St} {v1 v2 : Prop} {f1 f2 : Foot} (hap : oi.apart ops oj = true) (hni : ni f1 f2 = true)
    (h1 : astep E ops nt oi σ = some (σ1, v1, f1)) (h2 : astep E ops nt oj σ1 = some (σ2, v2, f2)) :
    ∃ σ3, astep E ops nt oj σ = some (σ3, v2, f2) ∧ astep E ops nt oi σ3 = some (σ2, v1, f1) := by
  obtain ⟨ha1, ha2, ha3⟩ := Oper.apart_spec hap
  obtain ⟨n1, n2, n3, n4⟩ := ni_spec hni
  unfold astep at h1 h2
  split at h1
  · cases h1
  rename_i c1 hc1
  split at h1
  · cases h1
  rename_i r1 hr1
  rw [stepR_eq] at h1
  simp only [Option.some.injEq, Prod.mk.injEq] at h1
  obtain ⟨rfl, rfl, rfl⟩ := h1
  split at h2
  · cases h2
  rename_i c2 hc2
  split at h2
  · cases h2
  rename_i r2 hr2
  rw [stepR_eq] at h2
  simp only [Option.some.injEq, Prod.mk.injEq] at h2
  obtain ⟨rfl, rfl, rfl⟩ := h2
  simp only at n1 n2 n3 n4
  have wf1 := aop_wf hE hr1
  have wf2 := aop_wf hE hr2
  -- slots that an operation looks at
  have hlook : ∀ (o o' : Oper) (tm : Nat → AV) (x : AV), (∀ d, o'.dst = some d → d ∉ o.looksAt ops) → (∀ y ∈ o.op.operands, (St.mk (upd tm o'.dst x) []).ev y = (St.mk tm []).ev y) ∧
      (∀ g w, o.guard = some (g, w) → ∀ d, (ops[g]?).bind (·.dst) = some d → upd tm o'.dst x d = tm d) := by
    intro o o' tm x hd
    refine ⟨fun y hy => ?_, fun g w hg d hgd => ?_⟩
    · cases y with
      | tmp t =>
        simp only [St.ev]
        refine upd_ne (fun e => hd t e ?_)
        simp only [Oper.looksAt, List.mem_append, List.mem_filterMap]
        exact .inl ⟨.tmp t, by simpa using hy, rfl⟩
      | _ => rfl
    · refine upd_ne (fun e => hd d e ?_)
      simp only [Oper.looksAt, List.mem_append, hg, hgd]
      exact .inr (by simp)
  have ev_hp : ∀ (σ : St) (y : Operand), σ.ev y = (St.mk σ.tm []).ev y := fun σ y => by cases y <;> rfl
  have cond_eq : ∀ (o o' : Oper) (σ : St) (x : AV) (hp : List HObj), (∀ d, o'.dst = some d → d ∉ o.looksAt ops) → condOf ops nt ⟨upd σ.tm o'.dst x, hp⟩ o.guard = condOf ops nt σ o.guard := by
    intro o o' σ x hp hd
    have := (hlook o o' σ.tm x hd).2
    unfold condOf
    cases hg : o.guard with
    | none => rfl
    | some q =>
      obtain ⟨j, w⟩ := q
      simp only
      cases hb : (ops[j]?).bind (·.dst) with
      | none => rfl
      | some d =>
        simp only
        rw [this j w hg d hb]
  have gall_eq : ∀ (o o' : Oper) (σ : St) (x : AV) (hp : List HObj), (∀ d, o'.dst = some d → d ∉ o.looksAt ops) → gall ⟨upd σ.tm o'.dst x, hp⟩ o.op.operands.toList = gall σ o.op.operands.toList := by
    intro o o' σ x hp hd
    have := (hlook o o' σ.tm x hd).1
    unfold gall
    rw [Bool.eq_iff_iff, List.all_eq_true, List.all_eq_true]
    refine forall_congr' fun y => forall_congr' fun hy => ?_
    rw [ev_hp ⟨upd σ.tm o'.dst x, hp⟩ y, ev_hp σ y]
    simp only
    rw [this y (Array.mem_toList_iff.1 hy)]
  have gop_eq : ∀ (o o' : Oper) (σ : St) (x : AV) (hp : List HObj), (∀ d, o'.dst = some d → d ∉ o.looksAt ops) → gop ⟨upd σ.tm o'.dst x, hp⟩ o.op = gop σ o.op := by
    intro o o' σ x hp hd
    have hgl := gall_eq o o' σ x hp hd
    have := (hlook o o' σ.tm x hd).1
    unfold gop
    split
    · rename_i c y z hop
      rw [hop] at this
      have key : ∀ u ∈ (Op.pick c y z).operands, (St.mk (upd σ.tm o'.dst x) hp).ev u = σ.ev u := fun u hu => by
        rw [ev_hp ⟨upd σ.tm o'.dst x, hp⟩ u, ev_hp σ u]
        exact this u hu
      rw [key c (by simp [Op.operands]), key y (by simp [Op.operands]), key z (by simp [Op.operands])]
    · exact hgl
  -- oj first
  have hc2' : condOf ops nt σ oj.guard = some c2 := by rw [← hc2]; exact (cond_eq oj oi σ _ _ ha1).symm
  have hr2' : aop E (fun x => (σ.ev x).un) σ.hp.length (fun i => σ.hp[i]?) oj.op = some r2 := by
    refine aop_frame hE hr2 (fun y hy => ?_) (fun i hi => ?_) (fun hal => ?_)
    · have := (hlook oj oi σ.tm (stepV oi.guard c1 r1) ha1).1 y hy
      rw [ev_hp σ y, ev_hp ⟨upd σ.tm oi.dst (stepV oi.guard c1 r1), stepH c1 r1 σ.hp⟩ y]
      simp only
      rw [this]
    · exact (stepH_get (fun hw => n1 i hw hi)).symm
    · have : r1.nw = [] := by
        by_cases hnw : r1.nw = []
        · exact hnw
        · exact absurd ⟨wf1.2 hnw, hal⟩ n4
      exact (stepH_length this).symm
  have hnw : r1.nw = [] ∨ r2.nw = [] := by
    by_cases hnw : r1.nw = []
    · exact .inl hnw
    · by_cases hnw2 : r2.nw = []
      · exact .inr hnw2
      · exact absurd ⟨wf1.2 hnw, wf2.2 hnw2⟩ n4
  have wf2' := aop_wf hE hr2'
  have hlt1 : ∀ q ∈ r1.wr, q.1 < σ.hp.length := fun q hq => by
    have := (wf1.1 q hq).1
    obtain ⟨o, ho⟩ := Option.isSome_iff_exists.1 this
    exact (List.getElem?_eq_some_iff.1 ho).1
  have hlt2 : ∀ q ∈ r2.wr, q.1 < σ.hp.length := fun q hq => by
    have := (wf2'.1 q hq).1
    obtain ⟨o, ho⟩ := Option.isSome_iff_exists.1 this
    exact (List.getElem?_eq_some_iff.1 ho).1
  have hW2 : stepW c2 r2 (stepH c1 r1 σ.hp).length = stepW c2 r2 σ.hp.length := by
    rcases hnw with hnw | hnw
    · exact stepW_length (.inr (stepH_length hnw))
    · exact stepW_length (.inl hnw)
  rw [hW2] at n2 n3
  refine ⟨⟨upd σ.tm oj.dst (stepV oj.guard c2 r2), stepH c2 r2 σ.hp⟩, ?_, ?_⟩
  · unfold astep
    rw [hc2']
    simp only
    rw [hr2']
    simp only
    rw [stepR_eq, hW2, gop_eq oj oi σ _ _ ha1]
  · have hc1' : condOf ops nt ⟨upd σ.tm oj.dst (stepV oj.guard c2 r2), stepH c2 r2 σ.hp⟩ oi.guard = some c1 := by rw [cond_eq oi oj σ _ _ ha3]; exact hc1
    have hr1' : aop E (fun x => ((St.mk (upd σ.tm oj.dst (stepV oj.guard c2 r2)) (stepH c2 r2 σ.hp)).ev x).un) (stepH c2 r2 σ.hp).length (fun i => (stepH c2 r2 σ.hp)[i]?) oi.op = some r1 := by
      refine aop_frame hE hr1 (fun y hy => ?_) (fun i hi => ?_) (fun hal => ?_)
      · have := (hlook oi oj σ.tm (stepV oj.guard c2 r2) ha3).1 y hy
        rw [ev_hp σ y, ev_hp ⟨upd σ.tm oj.dst (stepV oj.guard c2 r2), stepH c2 r2 σ.hp⟩ y]
        simp only
        rw [this]
      · exact stepH_get (n3 i hi)
      · have : r2.nw = [] := by
          by_cases hnw : r2.nw = []
          · exact hnw
          · exact absurd ⟨hal, wf2.2 hnw⟩ n4
        exact stepH_length this
    have hW1 : stepW c1 r1 (stepH c2 r2 σ.hp).length = stepW c1 r1 σ.hp.length := by
      rcases hnw with hnw | hnw
      · exact stepW_length (.inl hnw)
      · exact stepW_length (.inr (stepH_length hnw))
    unfold astep
    rw [hc1']
    simp only
    rw [hr1']
    simp only
    rw [stepR_eq, gop_eq oi oj σ _ _ ha3]
    simp only [Option.some.injEq, Prod.mk.injEq]
    refine ⟨?_, trivial, ?_⟩
    · rw [upd_comm (fun t ht ht' => ha2 t ht' ht), stepH_comm hnw hlt1 hlt2 n2]
    · rw [hW1]

end

section
variable {P : Program} {E : Env} {G : Stb} {base : Nat} {M : Nat → Prop} {w0 w : World} {C0 : Cx} {m0 nt : Nat} {σ σ' : St} {bl : Nat → Option Nat} {rv : Nat → Value} {a : Act} {ops : Array Oper}

/-- Whatever order is picked from here on; each operation leaves the footprint that is told. -/
def anyA (E : Env) (ops : Array Oper) (nt : Nat) (F : Nat → Foot) (Q : St → Prop) : Nat → Array Bool → St → Prop
  | 0, listed, σ => Region.ready .any ops listed = [] ∧ Q σ
  | fuel + 1, listed, σ =>
    (Region.ready .any ops listed = [] → Q σ) ∧
    ∀ i ∈ Region.ready .any ops listed, ∃ o σ' v, ops[i]? = some o ∧ astep E ops nt o σ = some (σ', v, F i) ∧ v ∧ anyA E ops nt F Q fuel (listed.setIfInBounds i true) σ'

theorem wpAny_of_anyA (hE : EnvOk P E) {Q' : Exit → Act → World → Prop} {F : Nat → Foot} {Q : St → Prop} (hin : ∀ (i : Nat) o, ops[i]? = some o → tmpsIn nt o.op.operands.toList = true)
    (hQ : ∀ σ bl rv a w, Q σ → Rel G base M w0 C0 m0 nt σ bl rv a w → Q' .normal a w) : ∀ (fuel : Nat) (listed : Array Bool) (σ : St) (bl : Nat → Option Nat) (rv : Nat → Value) (a : Act) (w : World),
    Rel G base M w0 C0 m0 nt σ bl rv a w → anyA E ops nt F Q fuel listed σ → wpAny P .any ops Q' fuel listed a w
  | 0, _, _, _, _, _, _, hR, h => ⟨h.1, hQ _ _ _ _ _ h.2 hR⟩
  | fuel + 1, listed, σ, bl, rv, a, w, hR, h => by
    refine ⟨fun h0 => hQ _ _ _ _ _ (h.1 h0) hR, fun i hi => ?_⟩
    obtain ⟨o, σ', v, ho, hs, hv, hk⟩ := h.2 i hi
    have := astep_sound (K := wpAny P .any ops Q' fuel (listed.setIfInBounds i true)) (Q := Q') hE hR hs hv (hin i o ho) (fun bl' rv' a' w' hR' => wpAny_of_anyA hE hin hQ fuel _ _ _ _ _ _ hR' hk)
    unfold wpOp
    simp only [ho]
    split
    · rename_i hw; rw [if_pos hw] at this; exact .inl this
    · rename_i hw; rw [if_neg hw] at this; exact this

theorem anyA_first (hE : EnvOk P E) {F : Nat → Foot} {Q : St → Prop} {i : Nat} {oi : Oper} (hi : ops[i]? = some oi) : ∀ (fuel : Nat) (listed : Array Bool) (σ σ1 : St) (v : Prop),
    (∀ j oj, ops[j]? = some oj → j ≠ i → listed.getD j true = false → (∀ e ∈ oj.after, Region.binds .any e = true → e.on ≠ i) → oi.apart ops oj = true ∧ ni (F i) (F j) = true) →
    i ∈ Region.ready .any ops listed → astep E ops nt oi σ = some (σ1, v, F i) → v →
    anyA E ops nt F Q fuel (listed.setIfInBounds i true) σ1 → anyA E ops nt F Q (fuel + 1) listed σ := by
  intro fuel
  induction fuel with
  | zero =>
    intro listed σ σ1 v _ hr hs hv H
    refine ⟨fun h => (by rw [h] at hr; cases hr), fun j hj => ?_⟩
    by_cases hji : j = i
    · subst hji; exact ⟨oi, σ1, v, hi, hs, hv, H⟩
    · have := ready_mono hj hji
      rw [H.1] at this
      cases this
  | succ fuel ih =>
    intro listed σ σ1 v hfree hr hs hv H
    refine ⟨fun h => (by rw [h] at hr; cases hr), fun j hj => ?_⟩
    by_cases hji : j = i
    · subst hji; exact ⟨oi, σ1, v, hi, hs, hv, H⟩
    · obtain ⟨oj, σ2, v2, hoj, hs2, hv2, hk2⟩ := H.2 j (ready_mono hj hji)
      obtain ⟨hjun, oj', hoj', hall⟩ := mem_ready.1 hj
      rw [hoj] at hoj'
      cases hoj'
      have hnot : ∀ e ∈ oj.after, Region.binds .any e = true → e.on ≠ i := fun e he hb heq => by
        have h1 := hall e he hb
        have h0 := (mem_ready.1 hr).1
        rw [heq] at h1
        rcases Nat.lt_or_ge i listed.size with h' | h'
        · simp [h'] at h0 h1; rw [h0] at h1; cases h1
        · simp [Array.getElem?_eq_none h'] at h1
      obtain ⟨hap, hn⟩ := hfree j oj hoj hji hjun hnot
      obtain ⟨σ3, hs3, hs4⟩ := astep_swap hE hap hn hs hs2
      refine ⟨oj, σ3, v2, hoj, hs3, hv2, ?_⟩
      have hfree' : ∀ k ok, ops[k]? = some ok → k ≠ i → (listed.setIfInBounds j true).getD k true = false →
          (∀ e ∈ ok.after, Region.binds .any e = true → e.on ≠ i) → oi.apart ops ok = true ∧ ni (F i) (F k) = true := fun k ok hk hki hun hno => by
        refine hfree k ok hk hki ?_ hno
        by_cases hjk : j = k
        · subst hjk; exact hjun
        · rw [getD_set_ne true hjk] at hun; exact hun
      refine ih (listed.setIfInBounds j true) σ3 σ2 v hfree' (ready_mono hr (Ne.symm hji)) hs4 hv ?_
      rw [Array.setIfInBounds_comm _ _ hji]
      exact hk2

/-- No two operations of which neither waits for the other touch. -/
def waits (oj : Oper) (i : Nat) : Bool := oj.after.any fun e => Region.binds .any e && e.on == i
def niFrom : Nat → List Oper → List Foot → Bool
  | k, o :: l, f :: fs => (l.zip fs).all (fun q => waits q.1 k || ni f q.2) && niFrom (k + 1) l fs
  | _, _, _ => true

theorem anyA_lex (hE : EnvOk P E) {F : Nat → Foot} (hs : Region.noSelect ops = true) : ∀ (l : List Oper) (k : Nat) (listed : Array Bool) (σ : St) (q : St × Prop × List Foot), (∀ j, l[j]? = ops[k + j]?) →
    Region.lexFrom .any ops l.length k listed = true → (∀ j, j < k → listed.getD j true = true) → aops E ops nt l σ = some q → q.2.1 → (∀ j f, q.2.2[j]? = some f → F (k + j) = f) → niFrom k l q.2.2 = true →
    anyA E ops nt F (fun σ' => σ' = q.1) l.length listed σ
  | [], _, _, σ, q, _, hB, _, ha, _, _, _ => by
    simp [aops] at ha
    subst ha
    exact ⟨by simpa [Region.lexFrom] using hB, rfl⟩
  | o :: l, k, listed, σ, q, hl, hB, hdone, ha, hv, hF, hn => by
    have h0 : ops[k]? = some o := by simpa using (hl 0).symm
    simp only [List.length_cons, Region.lexFrom, Bool.and_eq_true] at hB
    obtain ⟨⟨hr, hf⟩, hB'⟩ := hB
    simp only [aops] at ha
    split at ha
    · cases ha
    rename_i σ1 v1 f1 hs1
    split at ha
    · cases ha
    rename_i σ2 v2 fs hs2
    simp at ha
    subst ha
    obtain ⟨hv1, hv2⟩ := hv
    have hFk : F k = f1 := hF 0 f1 rfl
    simp only [niFrom, Bool.and_eq_true] at hn
    obtain ⟨hn1, hn2⟩ := hn
    have hfl : fs.length = l.length := by
      have : ∀ (l : List Oper) (σ : St) q, aops E ops nt l σ = some q → q.2.2.length = l.length := by
        intro l
        induction l with
        | nil => intro σ q h; simp [aops] at h; subst h; rfl
        | cons o l ih =>
          intro σ q h
          simp only [aops] at h
          split at h
          · cases h
          split at h
          · cases h
          rename_i h2
          simp at h
          subst h
          simp [ih _ _ h2]
      exact this l _ _ hs2
    refine anyA_first hE h0 l.length listed σ σ1 v1 (fun j oj hj hjk hun hno => ⟨Region.free_spec h0 hf j oj hj hjk hun hno, ?_⟩) (by simpa using hr) (by rw [hFk]; exact hs1) hv1 ?_
    · -- behind k
      have hjk' : k < j := by
        rcases Nat.lt_or_ge j k with h | h
        · rw [hdone j h] at hun; cases hun
        · omega
      obtain ⟨p, rfl⟩ : ∃ p, j = k + 1 + p := ⟨j - k - 1, by omega⟩
      have hlp : l[p]? = some oj := by
        have := hl (p + 1)
        simp only [List.getElem?_cons_succ] at this
        rw [this, show k + (p + 1) = k + 1 + p by omega]
        exact hj
      have hpl : p < l.length := (List.getElem?_eq_some_iff.1 hlp).1
      have hfp : fs[p]? = some fs[p] := List.getElem?_eq_getElem (by omega)
      have hzip : (oj, fs[p]) ∈ l.zip fs := by
        refine List.mem_of_getElem? (i := p) ?_
        rw [List.getElem?_zip_eq_some]
        exact ⟨hlp, hfp⟩
      have := (List.all_eq_true.1 hn1) _ hzip
      simp only [Bool.or_eq_true] at this
      rw [hFk, hF (p + 1) fs[p] (by simp [hfp]) |> (show F (k + (p + 1)) = fs[p] → F (k + 1 + p) = fs[p] from fun h => by rw [← h]; congr 1; omega)]
      rcases this with hw | hw
      · exfalso
        unfold waits at hw
        rw [Array.any_eq_true'] at hw
        obtain ⟨e, he, hee⟩ := hw
        simp only [Bool.and_eq_true, beq_iff_eq] at hee
        exact hno e he hee.1 hee.2
      · exact hw
    · refine anyA_lex hE hs l (k + 1) _ σ1 (σ2, v2, fs) (fun j => by have := hl (j + 1); simpa [Nat.add_assoc, Nat.add_comm 1 j] using this) hB' (fun j hj => ?_) hs2 hv2 (fun j f hf => ?_) hn2
      · by_cases hjk : j = k
        · subst hjk
          rcases Nat.lt_or_ge j listed.size with hlt | hge
          · simp [Array.getD, hlt]
          · simp [Array.getD, Nat.not_lt.2 hge]
        · rw [getD_set_ne true (fun e => hjk e.symm)]
          exact hdone j (by omega)
      · have := hF (j + 1) f (by simpa using hf)
        rw [← this]
        congr 1
        omega

/-- What a region comes to. -/
def areg (E : Env) (ops : Array Oper) (draw : Bool) (nt : Nat) (σ : St) : Option (St × Prop) :=
  match aops E ops nt ops.toList σ with
  | none => none
  | some (σ', v, fs) => if opsIn nt ops.toList = true ∧ (draw = true → Region.lexB .any ops = true ∧ niFrom 0 ops.toList fs = true) then some (σ', v) else none

theorem areg_sound (hE : EnvOk P E) (hm : P.follows .mixedOrders = true) {id : Nat} {draw : Bool} {Q : Exit → Act → World → Prop} {q : St × Prop} (h : Rel G base M w0 C0 m0 nt σ bl rv a w)
    (hs : areg E ops draw nt σ = some q) (hv : q.2) (hQ : ∀ bl' rv' a' w', Rel G base M w0 C0 m0 nt q.1 bl' rv' a' w' → Q .normal a' w') : (Code.region id ops draw).wp P Q a w := by
  unfold areg at hs
  split at hs
  · cases hs
  rename_i σ' v fs ha
  split at hs
  · rename_i hc
    simp at hs
    subst hs
    obtain ⟨hin, hd⟩ := hc
    cases draw with
    | false =>
      refine wp_region ?_
      have := aops_sound (Q := Q) hE ops.toList 0 σ bl rv a w _ (by simp) hin h ha hv hQ
      simpa [List.range_eq_range'] using this
    | true =>
      obtain ⟨hB, hn⟩ := hd rfl
      simp only [Region.lexB, Bool.and_eq_true] at hB
      refine wp_region_any hm ?_
      have hinn : ∀ (i : Nat) o, ops[i]? = some o → tmpsIn nt o.op.operands.toList = true := fun i o ho => by
        unfold opsIn at hin
        rw [List.all_eq_true] at hin
        exact hin o (List.mem_of_getElem? (by simpa using ho))
      have hd : Bel w.heap.size w w.drew := .drew _ _
      obtain ⟨h1, h2⟩ := h.H.below hd
      have hR : Rel G base M w0 C0 m0 nt σ bl rv a w.drew := ⟨h1, h.org.trans h2, h.len, h.dbl, h.drw, h.sz, fun t ht => (h.slots t ht).le h2, h.df⟩
      have hA := anyA_lex (nt := nt) (F := fun i => fs.getD i ⟨[], [], false⟩) hE hB.1 ops.toList 0 (Array.replicate ops.size false) σ _ (by simp) (by simpa using hB.2) (fun j hj => by omega) ha hv (fun j f hf => by simp only at hf; simp [List.getD, hf]) hn
      have hfin := wpAny_of_anyA (Q' := Q) hE hinn (fun σ'' bl' rv' a' w' he hR' => by subst he; exact hQ bl' rv' a' w' hR') _ _ _ _ _ _ _ hR hA
      simpa using hfin
  · cases hs

end
end Go.Proofs.Av
