/- The evaluator's equations as rewriting rules; loops; tables out of lists. -/
import Derived.Test.YtedaankgfolbjaaAv16
import Derived.IntWalk
set_option linter.unusedVariables false
set_option linter.unusedSimpArgs false
namespace Go.Proofs.Av
open Go.RowKit

section
variable {P : Program} {E : Env} {nt m0 : Nat} {Q : Exit → St → Prop} {σ : St}

theorem ac_skip : ac E nt m0 .skip Q σ = Q .normal σ := rfl
theorem ac_ret : ac E nt m0 .ret Q σ = Q .ret σ := rfl
theorem ac_goto {l : Nat} : ac E nt m0 (.goto l) Q σ = Q (.goto l) σ := rfl
theorem ac_label {l : Nat} : ac E nt m0 (.label l) Q σ = Q .normal σ := rfl
theorem ac_exit {id : Nat} : ac E nt m0 (.exit id) Q σ = Q (.exit id) σ := rfl
theorem ac_seq {x y : Code} : ac E nt m0 (.seq x y) Q σ = ac E nt m0 x (thenQ (ac E nt m0 y Q) Q) σ := rfl
theorem ac_block {id : Nat} {c : Code} : ac E nt m0 (.block id c) Q σ = ac E nt m0 c (inBlockQ id Q) σ := rfl
/-- What a region that draws its order asks. -/
def dr (ops : Array Oper) (fs : List Foot) : Bool := Region.lexB .any ops && niFrom 0 ops.toList fs
theorem ac_region {id : Nat} {ops : Array Oper} {draw : Bool} : ac E nt m0 (.region id ops draw) Q σ =
    match aops E ops nt ops.toList σ with
    | some (σ', v, fs) => opsIn nt ops.toList = true ∧ (draw = true → dr ops fs = true) ∧ v ∧ Q .normal σ'
    | none => False := by
  rcases he : aops E ops nt ops.toList σ with _ | ⟨σ2, v2, fs⟩
  · simp only [ac, areg, he]
  · simp only [ac, areg, he]
    by_cases hc : opsIn nt ops.toList = true ∧ (draw = true → Region.lexB .any ops = true ∧ niFrom 0 ops.toList fs = true)
    · rw [if_pos hc]
      simp only [eq_iff_iff]
      exact ⟨fun h => ⟨hc.1, fun hd => by simp [dr, (hc.2 hd).1, (hc.2 hd).2], h⟩, fun h => h.2.2⟩
    · rw [if_neg hc]
      simp only [eq_iff_iff, false_iff]
      exact fun h => hc ⟨h.1, fun hd => by have := h.2.1 hd; simpa [dr] using this⟩
theorem ac_cond {c : Operand} {x y : Code} : ac E nt m0 (.cond c x y) Q σ =
    match σ.ev c with
    | .p (.sc (.bool b)) => tmpsIn nt [c] = true ∧ (b = true → ac E nt m0 x Q σ) ∧ (b = false → ac E nt m0 y Q σ)
    | _ => False := rfl

theorem thenQ_normal {x : St → Prop} : thenQ x Q .normal σ = x σ := rfl
theorem thenQ_ret {x : St → Prop} : thenQ x Q .ret σ = Q .ret σ := rfl
theorem thenQ_exit {x : St → Prop} {i : Nat} : thenQ x Q (.exit i) σ = Q (.exit i) σ := rfl
theorem thenQ_goto {x : St → Prop} {i : Nat} : thenQ x Q (.goto i) σ = Q (.goto i) σ := rfl
theorem inBlockQ_goto {id i : Nat} : inBlockQ id Q (.goto i) σ = Q (.goto i) σ := rfl
theorem inBlockQ_normal {id : Nat} : inBlockQ id Q .normal σ = Q .normal σ := rfl
theorem inBlockQ_ret {id : Nat} : inBlockQ id Q .ret σ = Q .ret σ := rfl
theorem inBlockQ_exit {id i : Nat} : inBlockQ id Q (.exit i) σ = if i = id then Q .normal σ else Q (.exit i) σ := rfl

/-- The slots of a loop's head. -/
def look : List (Nat × AV) → Nat → AV
  | [] => fun _ => .dead
  | (t, v) :: l => upd (look l) (some t) v

/-- How a state fits a loop's head. -/
def headQ (n : Nat) (l : List (Nat × AV)) (h : List HObj) (σ : St) : Prop := n ≤ σ.hp.length ∧ softH (cutH n σ.hp) h ∧ ∀ q ∈ l, softA (fun i => σ.hp[i]?) n (σ.tm q.1) q.2

def roundQ (H : St → Prop) (Q : Exit → St → Prop) : Exit → St → Prop
  | .normal, σ => H σ
  | e, σ => Q e σ

theorem roundQ_normal {H : St → Prop} : roundQ H Q .normal σ = H σ := rfl
theorem roundQ_ret {H : St → Prop} : roundQ H Q .ret σ = Q .ret σ := rfl
theorem roundQ_exit {H : St → Prop} {i : Nat} : roundQ H Q (.exit i) σ = Q (.exit i) σ := rfl

theorem look_mem : ∀ (l : List (Nat × AV)) (t : Nat), (look l t = .dead ∧ t ∉ l.map (·.1)) ∨ ∃ q ∈ l, q.1 = t ∧ look l t = q.2
  | [], t => .inl ⟨rfl, by simp⟩
  | (u, v) :: l, t => by
    by_cases h : t = u
    · exact .inr ⟨(u, v), by simp, h.symm, by simp [look, upd, h]⟩
    · rcases look_mem l t with ⟨h1, h2⟩ | ⟨q, hq, h1, h2⟩
      · refine .inl ⟨by simp [look, upd, h, h1], ?_⟩
        simp at h2 ⊢
        exact ⟨h, h2⟩
      · exact .inr ⟨q, by simp [hq], h1, by simp [look, upd, h, h2]⟩

theorem headQ_weak {n : Nat} {l : List (Nat × AV)} {h : List HObj} (hn : m0 ≤ n) (hq : headQ n l h σ) : Weak m0 nt σ ⟨look l, h⟩ := by
  obtain ⟨h1, h2, h3⟩ := hq
  refine weak_of hn h1 h2 fun t => ?_
  rcases look_mem l t with ⟨h4, h5⟩ | ⟨q, hq, rfl, h4⟩
  · exact .inl h4
  · rw [h4]; exact .inr (h3 q hq)

theorem roundQ_goto {H : St → Prop} {i : Nat} : roundQ H Q (.goto i) σ = Q (.goto i) σ := rfl

/-- One round on. -/
def nextQ {A : Type} (pre : A → Prop) (μ : A → Nat) (n : Nat) (tmI : A → List (Nat × AV)) (hpI : A → List HObj) (a : A) (σ : St) : Prop := ∃ a', μ a' < μ a ∧ pre a' ∧ headQ n (tmI a') (hpI a') σ
theorem nextQ.mk {A : Type} {pre : A → Prop} {μ : A → Nat} {n : Nat} {tmI : A → List (Nat × AV)} {hpI : A → List HObj} {a : A} {σ : St} (a' : A) (h1 : μ a' < μ a) (h2 : pre a') (h3 : headQ n (tmI a') (hpI a') σ) : nextQ pre μ n tmI hpI a σ := ⟨a', h1, h2, h3⟩

/-- A loop: its head's slots and memory, by what turns from round to round. -/
theorem ac_loop {A : Type} {c : Code} (pre : A → Prop) (μ : A → Nat) (n : Nat) (tmI : A → List (Nat × AV)) (hpI : A → List HObj) (ks : List Nat) (hks : ∀ a, (tmI a).map (·.1) = ks) (a0 : A) (hn : m0 ≤ n) (p0 : σ.fits nt → pre a0) (h0 : headQ n (tmI a0) (hpI a0) σ)
    (round : ∀ a, pre a → (St.mk (look (tmI a)) (hpI a)).fits nt → ac E nt m0 c (roundQ (nextQ pre μ n tmI hpI a) Q) ⟨look (tmI a), hpI a⟩) : ac E nt m0 (.loop c) Q σ := by
  intro hfit
  refine ⟨fun g σ => ∃ a, pre a ∧ g = μ a ∧ σ = ⟨look (tmI a), hpI a⟩, μ a0, _, headQ_weak hn h0, ⟨a0, p0 hfit, rfl, rfl⟩, ?_⟩
  rintro g σ ⟨a, ha, rfl, rfl⟩ hf
  exact ac_mono c (round a ha hf) fun e σ hq => by
    cases e with
    | normal =>
      obtain ⟨a', h1, h2, h3⟩ := hq
      exact ⟨μ a', _, h1, headQ_weak hn h3, a', h2, rfl, rfl⟩
    | _ => exact hq
where
  ac_mono : ∀ (c : Code) {Q Q' : Exit → St → Prop} {σ : St}, ac E nt m0 c Q σ → (∀ e σ, Q e σ → Q' e σ) → ac E nt m0 c Q' σ
  | .skip, Q, Q', σ, h, hq => hq _ _ h
  | .ret, Q, Q', σ, h, hq => hq _ _ h
  | .exit _, Q, Q', σ, h, hq => hq _ _ h
  | .region id ops draw, Q, Q', σ, h, hq => by
    rw [ac_region] at h ⊢
    split at h
    · exact ⟨h.1, h.2.1, h.2.2.1, hq _ _ h.2.2.2⟩
    · exact h.elim
  | .seq x y, Q, Q', σ, h, hq => by
    rw [ac_seq] at h ⊢
    refine ac_mono x h fun e σ he => ?_
    cases e
    case normal => exact ac_mono y he hq
    all_goals exact hq _ _ he
  | .block id c, Q, Q', σ, h, hq => by
    rw [ac_block] at h ⊢
    refine ac_mono c h fun e σ he => ?_
    cases e
    case exit i =>
      simp only [inBlockQ] at he ⊢
      split
      · rename_i hi; rw [if_pos hi] at he; exact hq _ _ he
      · rename_i hi; rw [if_neg hi] at he; exact hq _ _ he
    all_goals exact hq _ _ he
  | .cond c x y, Q, Q', σ, h, hq => by
    rw [ac_cond] at h ⊢
    split at h
    · exact ⟨h.1, fun e => ac_mono x (h.2.1 e) hq, fun e => ac_mono y (h.2.2 e) hq⟩
    · exact h.elim
  | .loop c, Q, Q', σ, h, hq => by
    intro hf
    obtain ⟨I, g, σ0, h1, h2, h4⟩ := h hf
    refine ⟨I, g, σ0, h1, h2, fun g σ hI hf => ac_mono c (h4 g σ hI hf) fun e σ he => ?_⟩
    cases e
    case normal => exact he
    all_goals exact hq _ _ he
  | .goto _, _, _, _, h, hq => hq _ _ h
  | .label _, _, _, _, h, hq => hq _ _ h
  | .scope _, _, _, _, h, _ => by simp [ac] at h
  | .rangeFunc .., _, _, _, h, _ => by simp [ac] at h

/-- A goto back, by what turns from round to round. -/
def gotoT {A : Type} (l : Nat) (ok pre : A → Prop) (n : Nat) (tmI : A → List (Nat × AV)) (hpI : A → List HObj) (Q : Exit → St → Prop) : Exit → St → Prop
  | .goto l', σ => l' = l ∧ ∃ a', ok a' ∧ pre a' ∧ headQ n (tmI a') (hpI a') σ
  | e, σ => Q e σ
section
variable {A : Type} {l : Nat} {ok pre : A → Prop} {n : Nat} {tmI : A → List (Nat × AV)} {hpI : A → List HObj}
theorem gotoT_normal : gotoT l ok pre n tmI hpI Q .normal σ = Q .normal σ := rfl
theorem gotoT_ret : gotoT l ok pre n tmI hpI Q .ret σ = Q .ret σ := rfl
theorem gotoT_exit {i : Nat} : gotoT l ok pre n tmI hpI Q (.exit i) σ = Q (.exit i) σ := rfl
theorem gotoT_goto {l' : Nat} : gotoT l ok pre n tmI hpI Q (.goto l') σ = (l' = l ∧ ∃ a', ok a' ∧ pre a' ∧ headQ n (tmI a') (hpI a') σ) := rfl
end

theorem aw_scopeT {A : Type} (hE : EnvOk P E) (hm : P.follows .mixedOrders = true) {c rest : Code} {l : Nat} (hfl : findLabel c l = some rest) (pre : A → Prop) (μ : A → Nat) (n : Nat) (tmI : A → List (Nat × AV)) (hpI : A → List HObj) (ks : List Nat) (hks : ∀ a, (tmI a).map (·.1) = ks) (hn : m0 ≤ n)
    (h : ac E nt m0 c (gotoT l (fun _ => True) pre n tmI hpI Q) σ)
    (round : ∀ a, pre a → (St.mk (look (tmI a)) (hpI a)).fits nt → ac E nt m0 rest (gotoT l (fun a' => μ a' < μ a) pre n tmI hpI Q) ⟨look (tmI a), hpI a⟩) : AW P nt m0 (.scope c) Q σ := by
  refine aw_scope hfl (fun g σ => ∃ a, pre a ∧ g = μ a ∧ σ = ⟨look (tmI a), hpI a⟩) ?_ ?_
  · refine aw_mono (ac_sound hE hm c _ σ h) fun e σ hq => ?_
    cases e with
    | goto l' =>
      obtain ⟨h1, a', _, h2, h3⟩ := hq
      exact ⟨h1, μ a', _, trivial, headQ_weak hn h3, a', h2, rfl, rfl⟩
    | _ => exact hq
  · rintro g σ ⟨a, ha, rfl, rfl⟩ G base M w0 C0 act w hR
    refine aw_mono (ac_sound hE hm rest _ _ (round a ha hR.fits)) (fun e σ hq => ?_) G base M w0 C0 act w hR
    cases e with
    | goto l' =>
      obtain ⟨h1, a', h0, h2, h3⟩ := hq
      exact ⟨h1, μ a', _, h0, headQ_weak hn h3, a', h2, rfl, rfl⟩
    | _ => exact hq

/-- A plain function's end, as one condition. -/
def endQ (E : Env) (rs : List ResultVar) (y : PV) (e : Exit) (σ : St) : Prop :=
  (e = .normal ∨ e = .ret) ∧
  match ares E σ rs with
  | some (vs, p) => p ∧ (match demAll (fun i => σ.hp[i]?) vs with | some xs => one xs = y | none => False)
  | none => False

theorem endQ_end {rs : List ResultVar} {y : PV} {e : Exit} (h : endQ E rs y e σ) : EndP E rs y e σ := by
  obtain ⟨h1, h2⟩ := h
  refine ⟨h1, ?_⟩
  split at h2
  · rename_i vs p he
    obtain ⟨hp, h3⟩ := h2
    split at h3
    · rename_i xs hx
      exact ⟨vs, p, xs, he, hp, hx, h3⟩
    · exact h3.elim
  · exact h2.elim

/-- **A plain function's contract.** -/
theorem pure_of (hE : EnvOk P E) (hm : P.follows .mixedOrders = true) {f : FuncId} {fn : Func} {c : Code} (hf : P.funcs[f]? = some fn) (hb : fn.body = some c) (hin : resIn fn.ntmps fn.results.toList = true) {s : List PV → Option PV}
    (h : ∀ xs y, s xs = some y → xs.length ≤ fn.ntmps ∧ ac E fn.ntmps 0 c (endQ E fn.results.toList y) { tm := slotsOf (xs.map .p), hp := [] }) : PureC P f s :=
  pureC_of hE hf hb hin (fun xs y hs => (h xs y hs).1) (fun xs y hs => ac_sound hE hm _ _ _ (ac_loop.ac_mono _ (h xs y hs).2 fun _ _ => endQ_end))

/-- A table by lists. -/
def mkE (ty : TypeId → Option TyI) (eqT : List TypeId) (ps : List (FuncId × (List PV → Option PV))) (hs : List (FuncId × HFn)) : Env :=
  { ty := ty, eqT := fun t => eqT.contains t, pure := fun f => ps.lookup f, heap := fun f => hs.lookup f }

theorem lookup_mem {α : Type} {f : Nat} {s : α} : ∀ {l : List (Nat × α)}, l.lookup f = some s → (f, s) ∈ l
  | [], h => by simp at h
  | (g, t) :: l, h => by
    simp only [List.lookup] at h
    split at h
    · rename_i hb
      simp at hb h
      subst hb; subst h
      simp
    · exact List.mem_cons_of_mem _ (lookup_mem h)

theorem mkE_ok {ty : TypeId → Option TyI} {eqT : List TypeId} {ps : List (FuncId × (List PV → Option PV))} {hs : List (FuncId × HFn)} (hty : ∀ t i, ty t = some i → TyOk P t i) (heq : ∀ t ∈ eqT, ∀ i, ty t = some i → EqOk P t i.zero)
    (hps : ∀ q ∈ ps, PureC P q.1 q.2 ∧ Enters P q.1) (hhs : ∀ q ∈ hs, HeapC P q.1 q.2 ∧ Enters P q.1 ∧ HFrame q.2) : EnvOk P (mkE ty eqT ps hs) :=
  ⟨hty, fun t i ht hi => heq t (by simpa [mkE] using ht) i hi, fun f s h => hps _ (lookup_mem h), fun f s h => hhs _ (lookup_mem h)⟩

theorem upd_some (tm : Nat → AV) (d t : Nat) (v : AV) : upd tm (some d) v t = if t = d then v else tm t := rfl
theorem upd_none (tm : Nat → AV) (v : AV) : upd tm none v = tm := rfl
theorem slotsOf_eq (l : List AV) (t : Nat) : slotsOf l t = l.getD t .dead := rfl
theorem mkE_ty (ty : TypeId → Option TyI) (q : List TypeId) (ps : List (FuncId × (List PV → Option PV))) (hs : List (FuncId × HFn)) (t : TypeId) : (mkE ty q ps hs).ty t = ty t := rfl
theorem mkE_eqT (ty : TypeId → Option TyI) (q : List TypeId) (ps : List (FuncId × (List PV → Option PV))) (hs : List (FuncId × HFn)) (t : TypeId) : (mkE ty q ps hs).eqT t = q.contains t := rfl
theorem mkE_pure (ty : TypeId → Option TyI) (q : List TypeId) (ps : List (FuncId × (List PV → Option PV))) (hs : List (FuncId × HFn)) (f : FuncId) : (mkE ty q ps hs).pure f = ps.lookup f := rfl
theorem mkE_heap (ty : TypeId → Option TyI) (q : List TypeId) (ps : List (FuncId × (List PV → Option PV))) (hs : List (FuncId × HFn)) (f : FuncId) : (mkE ty q ps hs).heap f = hs.lookup f := rfl
theorem ba_beq' (a b : ByteArray) : (a == b) = true ↔ a = b := by
  constructor
  · intro h
    have h' : (a.data == b.data) = true := h
    have := eq_of_beq h'
    cases a; cases b; simp_all
  · rintro rfl
    show (a.data == a.data) = true
    simp
theorem ba_beq (a b : ByteArray) : (a == b) = decide (a = b) := by
  rw [Bool.eq_iff_iff, ba_beq']; simp
theorem constPV_int (k : IntKind) (n : Int) : constPV (.int k n) = .sc (.int k n) := rfl
theorem constPV_bool (b : Bool) : constPV (.bool b) = .sc (.bool b) := rfl
theorem constPV_string (b : ByteArray) : constPV (.string b) = .sc (.string b) := rfl
theorem constPV_nil : constPV (.slice none 0 0) = .sl 0 [] := rfl
theorem wrap64 {n : Int} (h1 : -9223372036854775808 ≤ n) (h2 : n ≤ 9223372036854775807) : IntKind.i64.wrap n = n := IntWalk.i64_in n ⟨h1, h2⟩
theorem look_nil (t : Nat) : look [] t = .dead := rfl
theorem look_cons (u : Nat) (v : AV) (l : List (Nat × AV)) (t : Nat) : look ((u, v) :: l) t = if t = u then v else look l t := rfl

end

theorem raw0_eq : raw0 = 4294967296 := rfl
attribute [simp] ac_goto ac_label thenQ_goto inBlockQ_goto roundQ_goto gotoT_normal gotoT_ret gotoT_exit gotoT_goto raw0_eq ac_skip ac_ret ac_exit ac_seq ac_block ac_region ac_cond thenQ_normal thenQ_ret thenQ_exit inBlockQ_normal inBlockQ_ret inBlockQ_exit roundQ_normal roundQ_ret roundQ_exit
  upd_some upd_none slotsOf_eq look_nil look_cons areg aops astep condOf aop St.ev AV.un AV.okCells stepR AV.cells gv opsIn tmpsIn Op.operands gop aopX aop0 aBinX aConvX convX asB aIndexB aSliceB aClearB aCallB fitEq sameAs likeAll numsOf gall AV.gcond isNilSlice constAV
  aFieldAddr aLoad TyI.agg aBin intBin strBin aPick boolV isBoolV boolOf Res.app setMany endQ ares aresV demAll dem demC demCs rdC rdOf one mkE_ty mkE_eqT mkE_pure mkE_heap List.lookup Call.operands constPV_int constPV_bool constPV_string constPV_nil fitC fitA fitO ba_beq aUn aConv asSl natOf aSlice partA isAggA aField aIndexAddr aIndex aExtract aLen aMinMax aAppend aCall aMakeFunc aopCall
  aAlloc zeroCells zeroPV place fillA dft aBuild aEmpty aBuildSlice reps chunks splice aStore aNil scEq cellsEq aEq headQ softH softO softA softP cutH HObj.cut AV.cut cutL AV.ng ngL resIn

end Go.Proofs.Av
