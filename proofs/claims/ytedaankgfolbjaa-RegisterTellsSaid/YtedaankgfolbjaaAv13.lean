/- One operation of a region, guarded or not; a region in the order of the text. -/
import Derived.Test.YtedaankgfolbjaaAv12
set_option linter.unusedVariables false
set_option linter.unusedSimpArgs false
namespace Go.Proofs.Av
open Go.RowKit

structure St where
  tm : Nat → AV
  hp : List HObj

def upd (tm : Nat → AV) (d : Option Tmp) (v : AV) : Nat → AV :=
  match d with
  | some d => fun t => if t = d then v else tm t
  | none => tm

def constPV : Value → PV
  | .slice none 0 0 => .sl 0 []
  | v => .sc v

def constAV : Value → AV
  | .agg vs => if vs.toList.all (·.oneCell') = true then .p (.agg (vs.toList.map constPV)) else .dead
  | .tuple _ => .dead
  | v => .p (constPV v)

def St.ev (σ : St) : Operand → AV
  | .tmp t => σ.tm t
  | .const v => constAV v
  | .func f => .fn f []
  | .global _ => .dead

def AV.un : AV → AV
  | .grd _ x => x
  | x => x
def AV.gcond : AV → Bool
  | .grd c _ => c
  | _ => true

structure Foot where
  rd : List Nat
  wr : List Nat
  al : Bool

def boolOf : AV → Option (Bool × Bool)
  | .p (.sc (.bool b)) => some (true, b)
  | .grd c (.p (.sc (.bool b))) => some (c, b)
  | _ => none

def condOf (ops : Array Oper) (nt : Nat) (σ : St) : Option (Nat × Bool) → Option Bool
  | none => some true
  | some (j, want) =>
    match (ops[j]?).bind (·.dst) with
    | some d => if d < nt then (boolOf (σ.tm d)).map fun q => q.1 && (q.2 == want) else none
    | none => none

def gv (g : Option (Nat × Bool)) (c : Bool) (v : AV) : AV :=
  match g with
  | none => v
  | some _ => .grd c v

def gall (σ : St) (l : List Operand) : Bool := l.all fun x => (σ.ev x).gcond

/-- Whether all that the operation needs has been carried out; a choice needs what it takes. -/
def gop (σ : St) : Op → Bool
  | .pick c x y => (σ.ev c).gcond && (match (σ.ev c).un with | .p (.sc (.bool b)) => bif b then (σ.ev x).gcond else (σ.ev y).gcond | _ => false)
  | o => gall σ o.operands.toList

def stepR (E : Env) (o : Oper) (c : Bool) (σ : St) (r : Res) : St × Prop × Foot :=
  bif r.wr.isEmpty && r.nw.isEmpty then
    ({ tm := upd σ.tm o.dst (gv o.guard c r.v), hp := σ.hp }, (c = true → gop σ o.op = true ∧ r.vc), { rd := r.rd, wr := [], al := r.al })
  else
    match c with
    | true => ({ tm := upd σ.tm o.dst r.v, hp := r.app σ.hp }, gop σ o.op = true ∧ r.vc, { rd := r.rd, wr := r.wr.map (·.1) ++ List.range' σ.hp.length r.nw.length, al := r.al })
    | false => ({ tm := upd σ.tm o.dst .dead, hp := σ.hp }, True, { rd := r.rd, wr := [], al := r.al })

def astep (E : Env) (ops : Array Oper) (nt : Nat) (o : Oper) (σ : St) : Option (St × Prop × Foot) :=
  match condOf ops nt σ o.guard with
  | none => none
  | some c =>
    match aop E (fun x => (σ.ev x).un) σ.hp.length (fun i => σ.hp[i]?) o.op with
    | none => none
    | some r => some (stepR E o c σ r)

structure Rel (G : Stb) (base : Nat) (M : Nat → Prop) (w0 : World) (C0 : Cx) (m0 nt : Nat) (σ : St) (bl : Nat → Option Nat) (rv : Nat → Value) (a : Act) (w : World) : Prop where
  H : RelH G base M w0 σ.hp bl rv w
  org : C0.le (cx G σ.hp bl rv w)
  len : m0 ≤ σ.hp.length
  dbl : ∀ b B, C0.bl b = some B → b < m0
  drw : ∀ b x, C0.rw_ b = some x → b < m0
  sz : a.tmps.size = nt
  slots : ∀ t, t < nt → RepA (cx G σ.hp bl rv w) (a.tmps.getD t undef) (σ.tm t)
  df : a.defers = []

section
variable {P : Program} {E : Env} {G : Stb} {base : Nat} {M : Nat → Prop} {w0 w : World} {C0 : Cx} {m0 nt : Nat} {σ σ' : St} {bl : Nat → Option Nat} {rv : Nat → Value} {a : Act}

theorem constPV_rep {S : Stb} {w : World} {v : Value} (h1 : v.oneCell' = true) : RepP S w v (constPV v) := by
  unfold constPV
  split
  · exact .sl 0 0 (fun _ _ => undef) rfl (Nat.le_refl _) (by simp [maxLen]) (fun h => absurd h (Nat.lt_irrefl 0)) (by simp) (by simp) (by simp)
  · exact .sc h1

theorem constAV_rep {C : Cx} (v : Value) : RepA C v (constAV v) := by
  unfold constAV
  split
  · rename_i vs
    split
    · rename_i hall
      simp at hall
      obtain ⟨l, rfl⟩ : ∃ l, vs = ⟨l⟩ := ⟨vs.toList, rfl⟩
      refine .p (.agg (by simp) (fun v hv => ?_) (fun i v c hv hc => ?_))
      · obtain ⟨i, hi, rfl⟩ := List.mem_iff_getElem.1 hv
        exact hall i hi
      · obtain ⟨x, hx, rfl⟩ := map_getElem? _ _ _ _ hc
        simp at hx
        rw [hv] at hx
        cases hx
        have hlt := (List.getElem?_eq_some_iff.1 hv)
        obtain ⟨hi, rfl⟩ := hlt
        exact constPV_rep (hall i hi)
    · exact .dead
  · exact .dead
  · rename_i h1 h2
    refine .p (constPV_rep ?_)
    cases v <;> first | rfl | exact absurd rfl (h1 _) | exact absurd rfl (h2 _)

theorem tmps_getD {a : Act} {t : Nat} (h : t < a.tmps.size) : a.tmps[t]? = some (a.tmps.getD t undef) := by
  simp [Array.getD, h]

theorem ev_rep (h : Rel G base M w0 C0 m0 nt σ bl rv a w) (x : Operand) (hx : ∀ t, x = .tmp t → t < nt) : RepA (cx G σ.hp bl rv w) (a.eval x) (σ.ev x) := by
  cases x with
  | tmp t => exact h.slots t (hx t rfl)
  | const v => exact constAV_rep v
  | global g => exact .dead
  | func f =>
    have := RepA.fn (C := cx G σ.hp bl rv w) (f := f) (vs := []) (cs := []) rfl (fun i v c hv _ => by simp at hv)
    exact this

theorem un_rep {C : Cx} {v : Value} {x : AV} (h : RepA C v x) (hg : x.gcond = true) : RepA C v x.un := by
  cases x <;> simp only [AV.un]
  case grd c x =>
    cases h with
    | grd ht hf => exact ht hg
  all_goals exact h

theorem put_slots {C C' : Cx} {tm : Nat → AV} {d : Option Tmp} {v : Value} {x : AV} (hle : C.le C') (hs : ∀ t, t < a.tmps.size → RepA C (a.tmps.getD t undef) (tm t)) (hv : RepA C' v x) :
    (a.put d v).tmps.size = a.tmps.size ∧ (∀ t, t < a.tmps.size → RepA C' ((a.put d v).tmps.getD t undef) (upd tm d x t)) ∧ (a.put d v).defers = a.defers := by
  cases d with
  | none => exact ⟨rfl, fun t ht => (hs t ht).le hle, rfl⟩
  | some d =>
    refine ⟨by simp [Act.put], fun t ht => ?_, rfl⟩
    simp only [Act.put, upd]
    by_cases htd : t = d
    · subst htd
      simp [Array.getD, ht]
      exact hv
    · have : (a.tmps.setIfInBounds d v).getD t undef = a.tmps.getD t undef := by
        simp only [Array.getD_eq_getD_getElem?]
        rw [Array.getElem?_setIfInBounds_ne (fun e => htd e.symm)]
      rw [this, if_neg htd]
      exact (hs t ht).le hle

/-- Whether the operation is carried out. -/
theorem cond_wanted (h : Rel G base M w0 C0 m0 nt σ bl rv a w) {ops : Array Oper} {o : Oper} {c : Bool} (hc : condOf ops nt σ o.guard = some c) : Region.wanted o (yielded ops a.tmps) = c := by
  unfold condOf at hc
  unfold Region.wanted
  cases hg : o.guard with
  | none => rw [hg] at hc; simp at hc; simp [hc]
  | some q =>
    obtain ⟨j, want⟩ := q
    rw [hg] at hc
    simp only at hc ⊢
    split at hc
    · rename_i d hd
      split at hc
      · rename_i hlt
        obtain ⟨q, hq, rfl⟩ := Option.map_eq_some_iff.1 hc
        have hslot := h.slots d hlt
        have hget := tmps_getD (a := a) (t := d) (by rw [h.sz]; exact hlt)
        unfold boolOf at hq
        split at hq
        · rename_i b htm
          simp at hq
          subst hq
          rw [htm] at hslot
          have := hslot.scv
          rw [this] at hget
          simp only [yielded, hd, Option.bind_some, hget]
          cases b <;> cases want <;> rfl
        · rename_i c b htm
          simp at hq
          subst hq
          rw [htm] at hslot
          generalize a.tmps.getD d undef = sv at hslot hget
          cases hslot with
          | grd ht hf =>
            cases c with
            | true =>
              have := (ht rfl).scv
              rw [this] at hget
              simp only [yielded, hd, Option.bind_some, hget]
              cases b <;> cases want <;> rfl
            | false =>
              rw [hf rfl] at hget
              simp only [yielded, hd, Option.bind_some, hget, undef]
              cases b <;> cases want <;> rfl
        · cases hq
      · cases hc
    · cases hc

/-- All slots that an operation names are there. -/
def tmpsIn (nt : Nat) (l : List Operand) : Bool := l.all fun | .tmp t => decide (t < nt) | _ => true

theorem tmpsIn_spec {l : List Operand} (h : tmpsIn nt l = true) {x : Operand} (hx : x ∈ l) (t : Nat) (e : x = .tmp t) : t < nt := by
  unfold tmpsIn at h
  rw [List.all_eq_true] at h
  have := h x hx
  subst e
  simpa using this

theorem Rel.setTm (h : Rel G base M w0 C0 m0 nt σ bl rv a w) {d : Option Tmp} {v : Value} {x : AV} (hv : RepA (cx G σ.hp bl rv w) v x) : Rel G base M w0 C0 m0 nt { tm := upd σ.tm d x, hp := σ.hp } bl rv (a.put d v) w := by
  obtain ⟨h1, h2, h3⟩ := put_slots (C := cx G σ.hp bl rv w) (C' := cx G σ.hp bl rv w) (d := d) (.refl _) (by rw [h.sz]; exact h.slots) hv
  exact ⟨h.H, h.org, h.len, h.dbl, h.drw, by rw [h1, h.sz], by rw [h.sz] at h2; exact h2, by rw [h3, h.df]⟩

theorem setMany_length (l : List (Nat × HObj)) : ∀ hp : List HObj, (setMany hp l).length = hp.length := by
  induction l with
  | nil => intro hp; rfl
  | cons q l ih => intro hp; simp [setMany, ih]

/-- **One operation of a region.** -/
theorem astep_sound (hE : EnvOk P E) (h : Rel G base M w0 C0 m0 nt σ bl rv a w) {ops : Array Oper} {o : Oper} {q : St × Prop × Foot} (hs : astep E ops nt o σ = some q) (hvc : q.2.1) (hin : tmpsIn nt o.op.operands.toList = true)
    {K : Act → World → Prop} {Q : Exit → Act → World → Prop} (hK : ∀ bl' rv' a' w', Rel G base M w0 C0 m0 nt q.1 bl' rv' a' w' → K a' w') :
    if Region.wanted o (yielded ops a.tmps) = true then o.wp P a w K Q else K (a.put o.dst undef) w := by
  unfold astep at hs
  split at hs
  · cases hs
  · rename_i c hc
    split at hs
    · cases hs
    · rename_i r hr
      simp at hs
      subst hs
      rw [cond_wanted h hc]
      have hops : gall σ o.op.operands.toList = true → ∀ x ∈ o.op.operands, RepA (cx G σ.hp bl rv w) (a.eval x) ((fun x => (σ.ev x).un) x) := by
        intro hg x hx
        have hx' : x ∈ o.op.operands.toList := Array.mem_toList_iff.2 hx
        refine un_rep (ev_rep h x (fun t e => tmpsIn_spec hin hx' t e)) ?_
        unfold gall at hg
        rw [List.all_eq_true] at hg
        exact hg x hx'
      have doesIt : gop σ o.op = true → r.vc → Does P o a w (Post G base M w0 σ.hp bl rv w r) := by
        intro hg hv
        by_cases hpk : ∃ c x y, o.op = .pick c x y
        · obtain ⟨c', x, y, hop⟩ := hpk
          rw [hop] at hg hr hin
          simp only [gop, Bool.and_eq_true] at hg
          have hin' : ∀ z ∈ [c', x, y], ∀ t, z = .tmp t → t < nt := fun z hz t e => tmpsIn_spec hin (by simpa [Op.operands] using hz) t e
          refine does_pick' h.H hop (un_rep (ev_rep h c' (hin' c' (by simp))) hg.1) (fun e => ?_) (fun e => ?_) (by simpa [aop, aopX, aop0] using hr) hv
          · rw [e] at hg
            exact un_rep (ev_rep h x (hin' x (by simp))) (by simpa using hg.2)
          · rw [e] at hg
            exact un_rep (ev_rep h y (hin' y (by simp))) (by simpa using hg.2)
        · have hgg : gop σ o.op = gall σ o.op.operands.toList := by
            unfold gop
            split
            · rename_i c' x y hop
              exact absurd ⟨c', x, y, hop⟩ hpk
            · rfl
          exact aop_does hE h.H _ (hops (by rw [← hgg]; exact hg)) hr hv
      have exec : gop σ o.op = true → r.vc → ∀ (y : AV), (∀ C v, RepA C v r.v → RepA C v y) → (∀ bl' rv' a' w', Rel G base M w0 C0 m0 nt { tm := upd σ.tm o.dst y, hp := r.app σ.hp } bl' rv' a' w' → K a' w') → o.wp P a w K Q := by
        intro hg hv y hy hk
        refine (doesIt hg hv).wp (fun v w' hp => ?_)
        obtain ⟨bl', rv', h1, h2, h3⟩ := hp
        obtain ⟨e1, e2, e3⟩ := put_slots (d := o.dst) h2 (by rw [h.sz]; exact h.slots) (hy _ _ h3)
        refine hk bl' rv' _ w' ⟨h1, h.org.trans h2, Nat.le_trans h.len ?_, h.dbl, h.drw, by rw [e1, h.sz], by rw [h.sz] at e2; exact e2, by rw [e3, h.df]⟩
        simp only [Res.app, List.length_append, setMany_length]
        omega
      unfold stepR at hK hvc
      by_cases hemp : (r.wr.isEmpty && r.nw.isEmpty) = true
      · rw [hemp] at hK hvc
        simp only [cond_true] at hK hvc
        have happ : r.app σ.hp = σ.hp := by
          simp at hemp
          simp [Res.app, hemp.1, hemp.2, setMany]
        cases c with
        | true =>
          rw [if_pos rfl]
          obtain ⟨hg, hv⟩ := hvc rfl
          refine exec hg hv (gv o.guard true r.v) (fun C v hv => ?_) (by rw [happ]; exact hK)
          unfold gv
          split
          · exact hv
          · exact .grd (fun _ => hv) (fun hh => by cases hh)
        | false =>
          rw [if_neg (by simp)]
          cases hg : o.guard with
          | none => rw [hg] at hc; simp [condOf] at hc
          | some gq =>
            refine hK bl rv _ w (h.setTm ?_)
            rw [hg]
            exact .grd (fun hh => by cases hh) (fun _ => rfl)
      · have hemp' : (r.wr.isEmpty && r.nw.isEmpty) = false := by simpa using hemp
        rw [hemp'] at hK hvc
        simp only [cond_false] at hK hvc
        cases c with
        | true =>
          rw [if_pos rfl]
          exact exec hvc.1 hvc.2 r.v (fun C v hv => hv) hK
        | false =>
          rw [if_neg (by simp)]
          exact hK bl rv _ w (h.setTm .dead)

/-- The operations in the order of the text. -/
def aops (E : Env) (ops : Array Oper) (nt : Nat) : List Oper → St → Option (St × Prop × List Foot)
  | [], σ => some (σ, True, [])
  | o :: l, σ =>
    match astep E ops nt o σ with
    | none => none
    | some (σ1, v1, f1) =>
      match aops E ops nt l σ1 with
      | none => none
      | some (σ2, v2, fs) => some (σ2, (v1 ∧ v2), f1 :: fs)

def opsIn (nt : Nat) (ops : List Oper) : Bool := ops.all fun o => tmpsIn nt o.op.operands.toList

theorem aops_sound (hE : EnvOk P E) {ops : Array Oper} {Q : Exit → Act → World → Prop} : ∀ (l : List Oper) (k : Nat) (σ : St) (bl : Nat → Option Nat) (rv : Nat → Value) (a : Act) (w : World) (q : St × Prop × List Foot),
    (∀ j, l[j]? = ops[k + j]?) → opsIn nt l = true → Rel G base M w0 C0 m0 nt σ bl rv a w → aops E ops nt l σ = some q → q.2.1 → (∀ bl' rv' a' w', Rel G base M w0 C0 m0 nt q.1 bl' rv' a' w' → Q .normal a' w') →
    wpOps P ops Q (List.range' k l.length) a w := by
  intro l
  induction l with
  | nil =>
    intro k σ bl rv a w q hl hin h hs hvc hQ
    simp [aops] at hs
    subst hs
    exact hQ bl rv a w h
  | cons o l ih =>
    intro k σ bl rv a w q hl hin h hs hvc hQ
    simp only [opsIn, List.all_cons, Bool.and_eq_true] at hin
    simp only [aops] at hs
    split at hs
    · cases hs
    · rename_i σ1 v1 f1 h1
      split at hs
      · cases hs
      · rename_i σ2 v2 fs h2
        simp at hs
        subst hs
        obtain ⟨hv1, hv2⟩ := hvc
        have hk : ops[k]? = some o := by simpa using (hl 0).symm
        have hst := astep_sound (K := wpOps P ops Q (List.range' (k + 1) l.length)) (Q := Q) hE h h1 hv1 hin.1 (fun bl' rv' a' w' hR =>
          ih (k + 1) σ1 bl' rv' a' w' _ (fun j => by have := hl (j + 1); simpa [Nat.add_assoc, Nat.add_comm 1 j] using this) hin.2 hR h2 hv2 hQ)
        simp only [List.length_cons, List.range'_succ, wpOps, hk]
        split
        · rename_i hw
          rw [if_pos hw] at hst
          exact .inl hst
        · rename_i hw
          rw [if_neg hw] at hst
          exact hst

end
end Go.Proofs.Av
