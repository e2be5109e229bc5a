/- The operations that leave memory as it is. -/
import Derived.Test.YtedaankgfolbjaaAv6
import Derived.WalkLawsBesides
set_option linter.unusedVariables false
set_option linter.unusedSimpArgs false
namespace Go.Proofs.Av
open Go.RowKit

inductive Does (P : Program) (o : Oper) (a : Act) (w : World) (Pst : Value → World → Prop) : Prop
  | val (v : Value) (w' : World) (h : (execOp a.eval o).run P w = .ok (.value v) w') (hp : Pst v w')
  | skip (w' : World) (h : (execOp a.eval o).run P w = .ok .skip w') (hp : Pst undef w')
  | call (f : FuncId) (args : Array Value) (h : (execOp a.eval o).run P w = .ok (.enter f args) w) (hc : Calls P f args w fun e w' => ∃ v, e = .returned v ∧ Pst v w')

theorem Does.wp {P : Program} {o : Oper} {a : Act} {w : World} {Pst : Value → World → Prop} {K : Act → World → Prop} {Q : Exit → Act → World → Prop}
    (h : Does P o a w Pst) (hk : ∀ v w', Pst v w' → K (a.put o.dst v) w') : o.wp P a w K Q := by
  cases h with
  | val v w' h hp => unfold Oper.wp; rw [h]; exact hk v w' hp
  | skip w' h hp => unfold Oper.wp; rw [h]; exact hk _ w' hp
  | call f args h hc =>
    unfold Oper.wp
    rw [h]
    exact hc.mono fun e w' ⟨v, he, hp⟩ => by subst he; exact hk v w' hp

def Post (G : Stb) (base : Nat) (M : Nat → Prop) (w0 : World) (hp : List HObj) (bl : Nat → Option Nat) (rv : Nat → Value) (w : World) (r : Res) (v : Value) (w' : World) : Prop :=
  ∃ bl' rv', RelH G base M w0 (r.app hp) bl' rv' w' ∧ (cx G hp bl rv w).le (cx G (r.app hp) bl' rv' w') ∧ RepA (cx G (r.app hp) bl' rv' w') v r.v

section
variable {P : Program} {E : Env} {G : Stb} {base : Nat} {M : Nat → Prop} {w0 w : World} {hp : List HObj} {bl : Nat → Option Nat} {rv : Nat → Value}
variable {o : Oper} {a : Act} {r : Res}

theorem Post.same (h : RelH G base M w0 hp bl rv w) {r : Res} (hw : r.wr = []) (hn : r.nw = []) {v : Value} (hv : RepA (cx G hp bl rv w) v r.v) : Post G base M w0 hp bl rv w r v w := by
  have : r.app hp = hp := by simp [Res.app, hw, hn, setMany]
  unfold Post
  rw [this]
  exact ⟨bl, rv, h, .refl _, hv⟩

theorem Reps.get {α β : Type} {R : α → β → Prop} {vs : List α} {xs : List β} (h : Reps R vs xs) {i : Nat} {x : β} (hx : xs[i]? = some x) : ∃ v, vs[i]? = some v ∧ R v x := by
  have hl : i < vs.length := by rw [h.1]; exact (List.getElem?_eq_some_iff.1 hx).1
  exact ⟨vs[i], List.getElem?_eq_getElem hl, h.2 i _ x (List.getElem?_eq_getElem hl) hx⟩

theorem does_move (h : RelH G base M w0 hp bl rv w) {x : Operand} {av : AV} (ho : o.op = .move x) (hx : RepA (cx G hp bl rv w) (a.eval x) av) : Does P o a w (Post G base M w0 hp bl rv w { v := av }) :=
  .val (a.eval x) w (by simp [execOp, ho]) (Post.same h rfl rfl hx)

theorem does_assign (h : RelH G base M w0 hp bl rv w) {x : Operand} {av : AV} (ho : o.op = .assign x) (hx : RepA (cx G hp bl rv w) (a.eval x) av) : Does P o a w (Post G base M w0 hp bl rv w { v := av }) :=
  .val (a.eval x) w (by simp [execOp, ho]) (Post.same h rfl rfl hx)

theorem does_assign_nil (h : RelH G base M w0 hp bl rv w) {x : Operand} (ho : o.op = .assign x) (hx : isNilSlice x = true) : Does P o a w (Post G base M w0 hp bl rv w { v := .own hp.length 0, nw := [.row 0 0 0 []], al := true }) := by
  have hx' : a.eval x = .slice none 0 0 := by
    unfold isNilSlice at hx
    split at hx
    · rfl
    · cases hx
  refine .val (a.eval x) w (by simp [execOp, ho]) ?_
  obtain ⟨h1, h2⟩ := h.newRow
  refine ⟨bl, rvNew rv hp.length, h1, h2, ?_⟩
  rw [hx']
  refine .own (ver := 0) (val := .slice none 0 0) ?_ (Nat.le_refl _) (fun _ => rfl) rfl
  show rwOf (hp ++ [nilRow]) (rvNew rv hp.length) hp.length = _
  rw [rwOf_row (e := 0) (k := 0) (ver := 0) (es := []) (by simp)]
  simp [rvNew]

theorem does_pick' (h : RelH G base M w0 hp bl rv w) {c x y : Operand} {ac ax ay : AV} (ho : o.op = .pick c x y) (hc : RepA (cx G hp bl rv w) (a.eval c) ac)
    (hx : ac = .p (.sc (.bool true)) → RepA (cx G hp bl rv w) (a.eval x) ax) (hy : ac = .p (.sc (.bool false)) → RepA (cx G hp bl rv w) (a.eval y) ay)
    (hr : aPick ac ax ay = some r) (hvc : r.vc) : Does P o a w (Post G base M w0 hp bl rv w r) := by
  unfold aPick at hr
  split at hr
  · rename_i c'
    cases hr
    have ec := hc.scv
    refine .val _ w ?_ (Post.same h rfl rfl (.p (.sc rfl)))
    cases c' with
    | true =>
      have ex := hx rfl
      simp only [cond_true, isBoolV] at hvc
      split at hvc
      · simp [execOp, ho, ec, ex.scv, asBool, boolV]
      · cases hvc
    | false =>
      have ey := hy rfl
      simp only [cond_false, isBoolV] at hvc
      split at hvc
      · simp [execOp, ho, ec, ey.scv, asBool, boolV]
      · cases hvc
  · cases hr

theorem does_pick (h : RelH G base M w0 hp bl rv w) {c x y : Operand} {ac ax ay : AV} (ho : o.op = .pick c x y) (hc : RepA (cx G hp bl rv w) (a.eval c) ac) (hx : RepA (cx G hp bl rv w) (a.eval x) ax) (hy : RepA (cx G hp bl rv w) (a.eval y) ay)
    (hr : aPick ac ax ay = some r) (hvc : r.vc) : Does P o a w (Post G base M w0 hp bl rv w r) := does_pick' h ho hc (fun _ => hx) (fun _ => hy) hr hvc

theorem does_nil (h : RelH G base M w0 hp bl rv w) {x : Operand} {ax : AV} (ho : o.op = .nilCheck x) (hx : RepA (cx G hp bl rv w) (a.eval x) ax)
    (hr : aNil ax = some r) : Does P o a w (Post G base M w0 hp bl rv w r) := by
  unfold aNil at hr
  split at hr
  · simp at hr; subst hr
    refine .val (a.eval x) w ?_ (Post.same h rfl rfl hx)
    generalize hv : a.eval x = v at *
    cases hx
    simp [execOp, ho, hv]
  · simp at hr; subst hr
    refine .val (a.eval x) w ?_ (Post.same h rfl rfl hx)
    generalize hv : a.eval x = v at *
    cases hx
    simp [execOp, ho, hv]
  · simp at hr; subst hr
    refine .val (a.eval x) w ?_ (Post.same h rfl rfl hx)
    generalize hv : a.eval x = v at *
    cases hx
    simp [execOp, ho, hv]
  · cases hr

theorem does_un (h : RelH G base M w0 hp bl rv w) {op : UnOp} {t : TypeId} {x : Operand} {ax : AV} (ho : o.op = .unOp op t x) (hx : RepA (cx G hp bl rv w) (a.eval x) ax)
    (hr : aUn op ax = some r) : Does P o a w (Post G base M w0 hp bl rv w r) := by
  unfold aUn at hr
  split at hr
  · simp at hr; subst hr
    exact .val _ w (by simp [execOp, ho, hx.scv, Op.unary]) (Post.same h rfl rfl (.p (.sc rfl)))
  · simp at hr; subst hr
    exact .val _ w (by simp [execOp, ho, hx.scv, Op.unary, Op.intArith]) (Post.same h rfl rfl (.p (.sc rfl)))
  · cases hr

theorem does_conv (hE : EnvOk P E) (h : RelH G base M w0 hp bl rv w) {s d : TypeId} {x : Operand} {ax : AV} (ho : o.op = .convert s d x) (hx : RepA (cx G hp bl rv w) (a.eval x) ax)
    (hr : aConv E s d ax = some r) : Does P o a w (Post G base M w0 hp bl rv w r) := by
  unfold aConv at hr
  split at hr
  · split at hr
    · rename_i n _ _ hs hd
      simp at hr; subst hr
      have h1 := (hE.ty _ _ hs).int
      have h2 := (hE.ty _ _ hd).int
      refine .val _ w ?_ (Post.same h rfl rfl (.p (.sc rfl)))
      simp [execOp, ho, hx.scv, convert, run_underlying h1, run_underlying h2, Conv.intToInt]
    · cases hr
  · cases hr

theorem does_extract (h : RelH G base M w0 hp bl rv w) {x : Operand} {i : Nat} {ax : AV} (ho : o.op = .extract x i) (hx : RepA (cx G hp bl rv w) (a.eval x) ax)
    (hr : aExtract ax i = some r) : Does P o a w (Post G base M w0 hp bl rv w r) := by
  unfold aExtract at hr
  split at hr
  · rename_i vs
    obtain ⟨y, hy, rfl⟩ := Option.map_eq_some_iff.1 hr
    generalize hv : a.eval x = v at *
    cases hx with
    | @tup us _ hl hrp =>
      have hlt : i < us.length := by rw [hl]; exact (List.getElem?_eq_some_iff.1 hy).1
      refine .val us[i] w ?_ (Post.same h rfl rfl (hrp i _ _ (List.getElem?_eq_getElem hlt) hy))
      simp [execOp, ho, hv, Instr.extract, hlt]
  · rename_i vs
    obtain ⟨y, hy, rfl⟩ := Option.map_eq_some_iff.1 hr
    generalize hv : a.eval x = v at *
    cases hx with
    | p hx =>
    cases hx with
    | @tup us _ hl hrp =>
      have hlt : i < us.length := by rw [hl]; exact (List.getElem?_eq_some_iff.1 hy).1
      refine .val us[i] w ?_ (Post.same h rfl rfl (.p (hrp i _ _ (List.getElem?_eq_getElem hlt) hy)))
      simp [execOp, ho, hv, Instr.extract, hlt]
  · cases hr

theorem map_getElem? {α β : Type} (f : α → β) (l : List α) (i : Nat) (y : β) (h : (l.map f)[i]? = some y) : ∃ x, l[i]? = some x ∧ f x = y := by
  rw [List.getElem?_map] at h
  exact Option.map_eq_some_iff.1 h

theorem does_fieldAddr (hE : EnvOk P E) (h : RelH G base M w0 hp bl rv w) {s : TypeId} {x : Operand} {f : Nat} {ax : AV} (ho : o.op = .fieldAddr s x f) (hx : RepA (cx G hp bl rv w) (a.eval x) ax)
    (hr : aFieldAddr E s ax f = some r) : Does P o a w (Post G base M w0 hp bl rv w r) := by
  unfold aFieldAddr at hr
  split at hr
  · rename_i fs _ _ _ hs
    split at hr
    · rename_i off ft hf
      split at hr
      · rename_i j hj
        split at hr
        · rename_i hpos
          obtain ⟨l, hl, hm⟩ := (hE.ty _ _ hs).struct
          have hsz := (hE.ty _ _ hj).sizeOf (P := P)
          obtain ⟨fd, hfd, hfe⟩ := map_getElem? (fun f : Field => (f.offset, f.type)) l.toList f (off, ft) (by rw [hm]; exact hf)
          simp only [Prod.mk.injEq] at hfe
          obtain ⟨rfl, rfl⟩ := hfe
          have hfd' : l[f]? = some fd := by simpa using hfd
          have key : ∀ b o', (Instr.fieldAt s (.pointer (some ⟨b, o', none⟩)) f).run P w = .ok (.pointer (some ⟨b, o' + fd.offset, none⟩)) w := by
            intro b o'
            simp [Instr.fieldAt, run_underlying hl, hfd', Instr.sureAddr, fieldPlace, hsz, addr_add]
            intro h0
            omega
          split at hr
          · simp at hr; subst hr
            generalize hv : a.eval x = v at *
            cases hx with
            | @ptr b B off' hB =>
              exact .val _ w (by simp [execOp, ho, hv, key]) (Post.same h rfl rfl (.ptr hB))
          · simp at hr; subst hr
            generalize hv : a.eval x = v at *
            cases hx with
            | elt b off' g hcell hrep =>
              refine .val _ w (by simp [execOp, ho, hv, key]) (Post.same h rfl rfl (.elt b (off' + fd.offset) (fun j => g (fd.offset + j)) (fun j y hy => ?_) (fun j y hy => ?_)))
              · rw [List.getElem?_drop] at hy
                have := hcell _ _ hy
                rw [Nat.add_assoc]
                exact this
              · rw [List.getElem?_drop] at hy
                exact hrep _ _ hy
          · cases hr
        · cases hr
      · cases hr
    · cases hr
  · cases hr

/-- A part of an aggregate. -/
theorem part_run (hE : EnvOk P E) {C : Cx} {t : TypeId} {vs : List Value} {cs : List AV} {off : Nat} (hrp : Reps (RepA C) vs cs) (h1 : ∀ v ∈ vs, v.oneCell' = true) (hr : partA E t cs off = some r) (hvc : r.vc) :
    ∃ v, (part t vs.toArray off).run P w = .ok v w ∧ RepA C v r.v ∧ r.wr = [] ∧ r.nw = [] := by
  unfold partA at hr
  split at hr
  · rename_i i hi
    have hsz := (hE.ty _ _ hi).sizeOf (P := P) w
    have hag := (hE.ty _ _ hi).isAgg (P := P) w
    split at hr
    · rename_i hag'
      simp at hr; subst hr
      rw [hag'] at hag
      simp only at hvc
      refine ⟨.agg (((vs.drop off).take i.size).toArray), ?_, .agg ?_ ?_ ?_, rfl, rfl⟩
      · simp [part, hag, hsz]
      · simp [hrp.1]
      · intro v hv
        exact h1 v (List.mem_of_mem_drop (List.mem_of_mem_take hv))
      · intro j v c hv hc
        rw [List.getElem?_take] at hv hc
        split at hv
        · rename_i hlt
          rw [if_pos hlt] at hc
          rw [List.getElem?_drop] at hv hc
          exact hrp.2 _ v c hv hc
        · cases hv
    · rename_i hag'
      simp at hr; subst hr
      simp only at hvc
      have hag2 : (Go.isAgg t).run P w = .ok false w := by rw [hag]; simp [hag']
      obtain ⟨v, hv, hrep⟩ := hrp.get (List.getElem?_eq_getElem hvc)
      refine ⟨v, ?_, ?_, rfl, rfl⟩
      · simp [part, hag2, hv]
      · simp only [List.getD, List.getElem?_eq_getElem hvc, Option.getD_some]
        exact hrep
  · cases hr

theorem isAgg_cells {C : Cx} {v : Value} {ax : AV} (hx : RepA C v ax) (ha : isAggA ax = true) : ∃ vs : List Value, v = .agg vs.toArray ∧ Reps (RepA C) vs ax.cells ∧ ∀ u ∈ vs, u.oneCell' = true := by
  cases ax with
  | p y =>
    cases y <;> simp [isAggA] at ha
    cases hx with
    | p hx =>
      cases hx with
      | @agg vs _ hl h1 hr =>
        refine ⟨vs, rfl, ⟨by simpa [AV.cells] using hl, fun i u y hu hy => ?_⟩, h1⟩
        simp only [AV.cells] at hy
        obtain ⟨c0, hc0, rfl⟩ := map_getElem? _ _ _ _ hy
        exact .p (hr i u c0 hu hc0)
  | agg cs =>
    cases hx with
    | @agg vs _ hl h1 hr => exact ⟨vs, rfl, ⟨hl, hr⟩, h1⟩
  | _ => simp [isAggA] at ha

theorem does_field (hE : EnvOk P E) (h : RelH G base M w0 hp bl rv w) {s : TypeId} {x : Operand} {f : Nat} {ax : AV} (ho : o.op = .field s x f) (hx : RepA (cx G hp bl rv w) (a.eval x) ax)
    (hr : aField E s ax f = some r) (hvc : r.vc) : Does P o a w (Post G base M w0 hp bl rv w r) := by
  unfold aField at hr
  split at hr
  · rename_i fs _ _ _ hs
    split at hr
    · rename_i off ft hf
      split at hr
      · rename_i hag
        obtain ⟨l, hl, hm⟩ := (hE.ty _ _ hs).struct
        obtain ⟨fd, hfd, hfe⟩ := map_getElem? (fun f : Field => (f.offset, f.type)) l.toList f (off, ft) (by rw [hm]; exact hf)
        simp only [Prod.mk.injEq] at hfe
        obtain ⟨rfl, rfl⟩ := hfe
        have hfd' : l[f]? = some fd := by simpa using hfd
        obtain ⟨vs, hv, hrp, h1⟩ := isAgg_cells hx hag
        obtain ⟨v, hrun, hrep, e1, e2⟩ := part_run (P := P) (w := w) hE hrp h1 hr hvc
        refine .val v w ?_ (Post.same h e1 e2 hrep)
        simp [execOp, ho, hv, Instr.field, run_underlying hl, hfd', asAgg, hrun]
      · cases hr
    · cases hr
  · cases hr

theorem asSl_rep (h : RelH G base M w0 hp bl rv w) {v : Value} {ax : AV} {k : Nat} {es : List (List PV)} (hx : RepA (cx G hp bl rv w) v ax) (hs : asSl (fun i => hp[i]?) ax = some (k, es)) : RepP (stb G hp bl rv) w v (.sl k es) := by
  unfold asSl at hs
  split at hs
  · rename_i k' es' hd
    simp at hs
    obtain ⟨rfl, rfl⟩ := hs
    exact h.demC hx hd
  · cases hs

theorem does_len (hE : EnvOk P E) (h : RelH G base M w0 hp bl rv w) {x : Operand} {t : TypeId} {ax : AV} (ho : o.op = .call { callee := .builtin .len, args := #[x], argTypes := #[t] })
    (hx : RepA (cx G hp bl rv w) (a.eval x) ax) (hr : aLen E (fun i => hp[i]?) t ax = some r) : Does P o a w (Post G base M w0 hp bl rv w r) := by
  unfold aLen at hr
  split at hr
  · rename_i ht
    have hu := (hE.ty _ _ ht).str
    split at hr
    · simp at hr; subst hr
      exact .val _ w (by simp [execOp, ho, resolve, invoke, builtin, Builtin.len_, run_underlying hu, hx.scv, goInt]) (Post.same h rfl rfl (.p (.sc rfl)))
    · cases hr
  · rename_i ht
    have hu := (hE.ty _ _ ht).slice
    split at hr
    · rename_i k es hs
      simp at hr; subst hr
      have hrep := asSl_rep h hx hs
      generalize hv : a.eval x = v at *
      cases hrep with
      | sl b off g hn hc hm hA hk hcell hrep =>
        refine .val _ w ?_ (Post.same h rfl rfl (.p (.sc rfl)))
        simp [execOp, ho, resolve, invoke, builtin, Builtin.len_, run_underlying hu, hv, goInt, hn]
    · cases hr
  · rename_i n _ _ _ _ ht
    have hu := (hE.ty _ _ ht).arr
    simp at hr; subst hr
    exact .val _ w (by simp [execOp, ho, resolve, invoke, builtin, Builtin.len_, run_underlying hu, goInt]) (Post.same h rfl rfl (.p (.sc rfl)))
  · cases hr

end
end Go.Proofs.Av
