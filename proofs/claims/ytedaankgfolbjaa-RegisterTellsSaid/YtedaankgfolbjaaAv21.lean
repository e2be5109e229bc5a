/- Contracts of functions that hand over a new slice, and of those that turn one where it lies. -/
import Derived.Test.YtedaankgfolbjaaAv20
import Derived.Lib.LazyBuf
set_option linter.unusedVariables false
set_option linter.unusedSimpArgs false
namespace Go.Proofs.Av
open Go.RowKit

/-- All cells are scalars. -/
class Sca (β : Type) [Cell β] : Prop where
  sc : ∀ (b : β), ∀ x ∈ Cell.c b, ∃ u, x = .sc u
  dc : ∀ (xs : List PV) (b : β), Cell.d xs = some b → xs = Cell.c b
  pos : 0 < Cell.n β

theorem Sca.list {β : Type} [Cell β] [Sca β] : ∀ {es : List (List PV)} {l : List β}, dL Cell.d es = some l → es = l.map Cell.c
  | [], l, h => by simp [dL] at h; subst h; rfl
  | x :: xs, l, h => by
    simp only [dL] at h
    split at h
    · rename_i a l' h1 h2
      simp at h
      subst h
      rw [Sca.dc x a h1, Sca.list h2]
      rfl
    · cases h

theorem RowOk.sca {β : Type} [Cell β] [Sca β] {base : Nat} {S S' : Stb} {w : World} {v : Value} {e k : Nat} {l : List β} (h : RowOk base S w v e k (l.map Cell.c)) : RowOk base S' w v e k (l.map Cell.c) := by
  rcases h with h | ⟨hk, xs, ho, h1, h2, h3⟩
  · exact .inl h
  · refine .inr ⟨hk, xs, ho, h1, h2, fun i j el x he hx => ?_⟩
    obtain ⟨u, hu, hrep⟩ := h3 i j el x he hx
    refine ⟨u, hu, ?_⟩
    obtain ⟨b, hb, rfl⟩ := map_getElem? _ _ _ _ he
    obtain ⟨u', rfl⟩ := Sca.sc b x (List.mem_of_getElem? hx)
    cases hrep with
    | sc h => exact .sc h

theorem RowOk.ety {base : Nat} {S : Stb} {w : World} {v : Value} {e e' k : Nat} {es : List (List PV)} (he : ety e = ety e') (h : RowOk base S w v e k es) : RowOk base S w v e' k es := by
  rcases h with h | ⟨hk, xs, ho, h1, h2, h3⟩
  · exact .inl h
  · exact .inr ⟨hk, xs, by rw [← he]; exact ho, h1, h2, h3⟩

theorem RowOk.nil {base : Nat} {S S' : Stb} {w : World} {v : Value} {e e' k k' : Nat} {es : List (List PV)} (hk : k = 0) (hk' : 0 < k') (h : RowOk base S w v e k es) : RowOk base S' w v e' k' es := by
  rcases h with ⟨_, rfl, rfl⟩ | ⟨h, _⟩
  · exact .inr ⟨hk', [], World.ownsRow_nil _ _ _ _, by simp, by simp, by simp⟩
  · omega

section
variable {P : Program} {E : Env}

/-- What must hold where a function ends that hands over a new slice. -/
def endF {β : Type} [Cell β] (E : Env) (rs : List ResultVar) (e : Nat) (l : List β) (ex : Exit) (σ : St) : Prop :=
  (ex = .normal ∨ ex = .ret) ∧
  match ares E σ rs with
  | some ([.own r u], p) => p ∧ (match σ.hp[r]? with | some (.row e' k' ver es) => u = ver ∧ es = l.map Cell.c ∧ ((k' = Cell.n β ∧ ety e' = ety e) ∨ k' = 0) | _ => False)
  | _ => False

/-- A new slice out of plain things. -/
def hG {β : Type} [Cell β] (e : Nat) (s : List PV → Option (List β)) : HFn := fun xs len h =>
  match demAll h xs with
  | some ys => (s ys).map fun l => { v := .own len 0, nw := [.row (e + raw0) (Cell.n β) 0 (l.map Cell.c)], rd := xs.flatMap rdOf, al := true }
  | none => none

theorem hG_frame {β : Type} [Cell β] (e : Nat) (s : List PV → Option (List β)) : HFrame (hG e s) := by
  refine ⟨fun xs len len' h h' r hr hf hl => ?_, fun xs len h r hr => ?_, fun xs len h r hr => ?_⟩
  · unfold hG at hr ⊢
    split at hr
    · rename_i ys hys
      obtain ⟨l, hs, rfl⟩ := Option.map_eq_some_iff.1 hr
      rw [demAll_frame xs hf, hys]
      simp only [hs]
      rw [hl rfl]
      rfl
    · cases hr
  · unfold hG at hr
    split at hr
    · obtain ⟨l, hs, rfl⟩ := Option.map_eq_some_iff.1 hr
      simp
    · cases hr
  · unfold hG at hr
    split at hr
    · obtain ⟨l, hs, rfl⟩ := Option.map_eq_some_iff.1 hr
      simp
    · cases hr

/-- A function that hands over a new slice. -/
def FreshC {β : Type} [Cell β] (P : Program) (f : FuncId) (e : Nat) (s : List PV → Option (List β)) : Prop :=
  ∀ (S : Stb) (w : World) (vs : List Value) (xs : List PV) (l : List β), (∀ b o, w.heap.size ≤ b → S b o) → Reps (RepP S w) vs xs → s xs = some l →
    Calls P f vs.toArray w fun r w' => ∃ v, r = .returned v ∧ Bel w.heap.size w w' ∧ RowOk w.heap.size noS w' v e (Cell.n β) (l.map Cell.c)

theorem FreshC.heap {β : Type} [Cell β] {f : FuncId} {e : Nat} {s : List PV → Option (List β)} (he : e < raw0) (hc : FreshC P f e s) : HeapC P f (hG e s) := by
  intro G base M w0 hp bl rv w vs xs r hH hr hs hvc
  unfold hG at hs
  split at hs
  · rename_i ys hys
    obtain ⟨l, hl, rfl⟩ := Option.map_eq_some_iff.1 hs
    have hd := hH.demAll hr hys
    refine (hc (stb G hp bl rv) w vs ys l (fun b o hb => hH.fresh hb o) hd hl).mono fun r w' ⟨v, hv, hb, hrow⟩ => ?_
    have hrow' : RowOk w.heap.size noS w' v (e + raw0) (Cell.n β) (l.map Cell.c) := hrow.ety (by rw [ety_raw, ety_small he])
    obtain ⟨h1, h2⟩ := hH.given hb hrow'
    refine ⟨v, bl, rvPut rv hp.length v, hv, by simpa [Res.app, setMany] using h1, by simpa [Res.app, setMany] using h2, ?_⟩
    refine .own (ver := 0) (val := v) ?_ (Nat.le_refl _) (fun _ => rfl) ?_
    · simp only [Res.app, setMany, cx]
      rw [rwOf_row (e := e + raw0) (k := Cell.n β) (ver := 0) (es := l.map Cell.c) (by simp)]
      simp [rvPut]
    · rcases hrow with ⟨_, _, rfl⟩ | ⟨_, _, ho, _⟩
      · rfl
      · rcases ho.2 with ⟨rfl, _⟩ | ⟨g, cap, cur, rfl, _⟩ <;> rfl
  · cases hs

theorem fresh_of {β : Type} [Cell β] [Sca β] (hE : EnvOk P E) (hm : P.follows .mixedOrders = true) {f : FuncId} {fn : Func} {c : Code} (hf : P.funcs[f]? = some fn) (hb : fn.body = some c) (hin : resIn fn.ntmps fn.results.toList = true)
    {xs ys : List PV} {e : Nat} {l : List β} (har : xs.length ≤ fn.ntmps) (h : (∀ x ∈ xs, fitA (.p x)) → AW P fn.ntmps 0 c (endF E fn.results.toList e l) { tm := slotsOf (xs.map .p), hp := [] }) :
    ∀ (S : Stb) (w : World) (vs : List Value), (∀ b o, w.heap.size ≤ b → S b o) → Reps (RepP S w) vs xs →
      Calls P f vs.toArray w fun r w' => ∃ v, r = .returned v ∧ Bel w.heap.size w w' ∧ RowOk w.heap.size noS w' v e (Cell.n β) (l.map Cell.c) := by
  intro S w vs hS hr
  have hfit : ∀ x ∈ xs, fitA (.p x) := fun x hx => by
    obtain ⟨i, hi⟩ := List.getElem?_of_mem hx
    have hlt : i < vs.length := by rw [hr.1]; exact (List.getElem?_eq_some_iff.1 hi).1
    exact (RepA.p (C := ⟨S, w, fun _ => none, fun _ => none⟩) (hr.2 i _ x (List.getElem?_eq_getElem hlt) hi)).fit
  refine calls_of_wp hf hb ?_
  have hmono : ∀ {v x}, RepP S w v x → RepP (stb S [] (fun _ => none) (fun _ => undef)) w v x := fun h => h.mono fun b o u s c => ⟨⟨s, by simp, by simp⟩, c⟩
  have hH : RelH S w.heap.size (fun _ => False) w [] (fun _ => none) (fun _ => undef) w :=
    ⟨.refl _ _ _, hS, Nat.le_refl _, by simp, by simp, by simp, by simp, by simp, by simp, by simp⟩
  have hrA : Reps (RepA (cx S [] (fun _ => none) (fun _ => undef) w)) vs (xs.map .p) := by
    refine ⟨by simpa using hr.1, fun i v x hv hx => ?_⟩
    obtain ⟨x0, hx0, rfl⟩ := map_getElem? _ _ _ _ hx
    exact .p (hmono (hr.2 i v x0 hv hx0))
  obtain ⟨hsz, hsl⟩ := slots_init hrA fn.ntmps (by rw [hr.1]; exact har)
  have hR : Rel S w.heap.size (fun _ => False) w ⟨fun _ _ => False, w, fun _ => none, fun _ => none⟩ 0 fn.ntmps { tm := slotsOf (xs.map .p), hp := [] } (fun _ => none) (fun _ => undef)
      { tmps := vs.toArray ++ Array.replicate (fn.ntmps - vs.toArray.size) undef, defers := [] } w :=
    ⟨hH, ⟨fun b o u s => s.elim, by simp, by simp⟩, Nat.le_refl _, by simp, by simp, hsz, hsl, rfl⟩
  refine wp_mono (h hfit S w.heap.size (fun _ => False) w _ _ w ⟨_, _, hR⟩) fun ex a' w' ⟨σ, ⟨bl, rv, hR'⟩, he, hend⟩ => ?_
  split at hend
  · rename_i r u p h1
    obtain ⟨h2, h3⟩ := hend
    split at h3
    · rename_i e' k' ver es hrow
      obtain ⟨rfl, rfl, hk⟩ := h3
      obtain ⟨ws, hrun, hreps⟩ := results_run hE hR' fn hin h1 h2
      have hb : Bel w.heap.size w w' := ⟨⟨hR'.H.fr.os, hR'.H.fr.tape, hR'.H.fr.output, hR'.H.fr.size, fun k hk => hR'.H.fr.block k hk (fun h => h)⟩, hR'.H.fr.drawn⟩
      obtain ⟨hl', hh⟩ := hreps
      match ws, hl' with
      | [v], _ =>
        have hv := hh 0 v _ rfl rfl
        have hvr : v = rv r := by
          cases hv with
          | own hw hle heq h1 =>
            simp only [cx] at hw
            rw [rwOf_row hrow] at hw
            simp at hw
            obtain ⟨rfl, rfl⟩ := hw
            exact heq rfl
        have hro := hR'.H.row r _ _ _ _ hrow
        have hfin : RowOk w.heap.size noS w' v e (Cell.n β) (l.map Cell.c) := by
          rw [hvr]
          rcases hk with ⟨rfl, hty⟩ | hk
          · exact (hro.sca (S' := noS)).ety hty
          · exact hro.nil hk Sca.pos
        rcases he with rfl | rfl <;> exact ⟨hR'.df, _, hrun, _, rfl, hb, hfin⟩
    · exact h3.elim
  · exact hend.elim

def gn1 {α β : Type} [Ty α] (s : α → Option (List β)) : List PV → Option (List β)
  | [x] => match Ty.d x with | some a => s a | _ => none
  | _ => none

theorem fresh1W {α β : Type} [Ty α] [Cell β] [Sca β] (hE : EnvOk P E) (hm : P.follows .mixedOrders = true) {f : FuncId} {fn : Func} {c : Code} (hf : P.funcs[f]? = some fn) (hb : fn.body = some c) (hin : resIn fn.ntmps fn.results.toList = true)
    {e : Nat} {s : α → Option (List β)} (hl : 1 ≤ fn.ntmps)
    (h : ∀ a l, s a = some l → fitA (.p (Ty.e a)) → AW P fn.ntmps 0 c (endF E fn.results.toList e l) { tm := slotsOf [.p (Ty.e a)], hp := [] }) : FreshC P f e (gn1 s) := by
  intro S w vs xs l hS hr hy
  unfold gn1 at hy
  split at hy
  · split at hy
    · rename_i x a ha
      refine fresh_of hE hm hf hb hin (xs := [Ty.e a]) (ys := []) (by simpa using hl) (fun hf => h a l hy (hf _ (by simp))) S w vs hS ⟨hr.1, fun i v z hv hz => ?_⟩
      match i with
      | 0 => simp at hz; subst hz; exact Ty.rep ha (hr.2 0 v _ hv rfl)
      | i + 1 => simp at hz
    · cases hy
  · cases hy

theorem fresh1 {α β : Type} [Ty α] [Cell β] [Sca β] (hE : EnvOk P E) (hm : P.follows .mixedOrders = true) {f : FuncId} {fn : Func} {c : Code} (hf : P.funcs[f]? = some fn) (hb : fn.body = some c) (hin : resIn fn.ntmps fn.results.toList = true)
    {e : Nat} {s : α → Option (List β)} (hl : 1 ≤ fn.ntmps)
    (h : ∀ a l, s a = some l → fitA (.p (Ty.e a)) → ac E fn.ntmps 0 c (endF E fn.results.toList e l) { tm := slotsOf [.p (Ty.e a)], hp := [] }) : FreshC P f e (gn1 s) :=
  fresh1W hE hm hf hb hin hl fun a l hs hf => ac_sound hE hm _ _ _ (h a l hs hf)

/-- Whether a slice is nil: a plain value does not tell, unless there is something in it. -/
theorem aw_isnil {nt m0 : Nat} {Q : Exit → St → Prop} {σ : St} {id : Nat} {o1 o2 : Oper} {x a b : Tmp} {t u : TypeId} {e : TypeId} {k : Nat} {es : List (List PV)} (hE : EnvOk P E)
    (h1 : o1.op = .move (.tmp x)) (d1 : o1.dst = some a) (g1 : o1.guard = none) (h2 : o2.op = .binOp .eql t (.tmp a) (.const (.slice none 0 0)) u) (d2 : o2.dst = some b) (g2 : o2.guard = none)
    (hx : x < nt) (ha : a < nt) (hu : P.underlying t = some (.slice e)) (hσ : σ.tm x = .p (.sl k es))
    (h : ∀ c : Bool, (c = true → es = []) → Q .normal { tm := upd (upd σ.tm (some a) (.p (.sl k es))) (some b) (.p (.sc (.bool c))), hp := σ.hp }) : AW P nt m0 (.region id #[o1, o2] false) Q σ := by
  intro G base M w0 C0 act w ⟨bl, rv, hR⟩
  refine wp_region ?_
  have hst := astep_sound (ops := #[o1, o2]) (o := o1) (K := wpOps P #[o1, o2] (LQ G base M w0 C0 m0 nt Q) (List.range' 1 1)) (Q := LQ G base M w0 C0 m0 nt Q) (q := ({ tm := upd σ.tm (some a) (.p (.sl k es)), hp := σ.hp }, (true = true → gop σ (.move (.tmp x)) = true ∧ True), { rd := [], wr := [], al := false })) hE hR
    (by simp only [astep, condOf, g1, aop, aopX, aop0, h1, stepR, St.ev, hσ, AV.un, gv, d1]; rfl) (by intro _; simp [gop, gall, Op.operands, St.ev, hσ, AV.gcond]) (by simp [h1, Op.operands, tmpsIn, hx]) (fun bl' rv' a' w' hR' => ?_)
  · have hw1 : Region.wanted o1 (yielded #[o1, o2] act.tmps) = true := by simp [Region.wanted, g1]
    rw [if_pos hw1] at hst
    simp only [List.range_eq_range', List.size_toArray, List.length_cons, List.length_nil, List.range'_succ, wpOps]
    simp only [List.getElem?_toArray, List.getElem?_cons_zero]
    rw [if_pos hw1]
    exact .inl hst
  · have hslot := hR'.slots a ha
    simp only [upd, if_true] at hslot
    have hw2 : Region.wanted o2 (yielded #[o1, o2] a'.tmps) = true := by simp [Region.wanted, g2]
    simp only [List.range'_succ, List.range'_zero, wpOps]
    simp only [List.getElem?_toArray, List.getElem?_cons_succ, List.getElem?_cons_zero]
    rw [if_pos hw2]
    refine .inl ?_
    have hev : a'.eval (.tmp a) = a'.tmps.getD a undef := rfl
    generalize hv : a'.tmps.getD a undef = v at *
    obtain ⟨A, n, c, rfl, hA⟩ : ∃ A n c, v = .slice A n c ∧ (A = none → es = []) := by
      cases hslot with
      | p hs =>
        cases hs with
        | @sl A n c _ _ _ off g hn hc hm hA hk hcell hrep =>
          refine ⟨A, n, c, rfl, fun hA0 => ?_⟩
          by_cases h0 : 0 < n
          · rw [hA h0] at hA0; cases hA0
          · exact List.eq_nil_of_length_eq_zero (by omega)
    have hd : Does P o2 a' w' (fun u w'' => w'' = w' ∧ ∃ c : Bool, u = .bool c ∧ (c = true → es = [])) := by
      refine .val (.bool A.isNone) w' ?_ ⟨rfl, _, rfl, fun hc => hA (by simpa using hc)⟩
      have hc : a'.eval (.const (.slice none 0 0)) = .slice none 0 0 := rfl
      have hgd : ∀ w, (eqGuard .eql t (.tmp a) (.const (.slice none 0 0)) (.slice A n c) (.slice none 0 0)).run P w = .ok () w := fun w => rfl
      have hrun := Lib.run_eql_slice_nil (P := P) w' t e A n c 0 0 hu
      simp only [execOp, h2, hev, hv, hc]
      simp [hgd, hrun]
    refine hd.wp (fun u w'' ⟨he, c, hu', hc⟩ => ?_)
    subst he
    subst hu'
    refine ⟨_, ⟨bl', rv', ?_⟩, h c hc⟩
    have := hR'.setTm (d := o2.dst) (v := .bool c) (x := .p (.sc (.bool c))) (.p (.sc rfl))
    rw [d2] at this ⊢
    exact this

/-- A function that turns a slice where it lies. -/
def InPl {β : Type} [Cell β] (P : Program) (f : FuncId) (more : List Value) (e : Nat) (s : List β → Option (List β)) : Prop :=
  ∀ (base : Nat) (w : World) (v : Value) (l l' : List β), s l = some l' → base ≤ w.heap.size → RowOk base noS w v e (Cell.n β) (l.map Cell.c) →
    Calls P f (v :: more).toArray w fun r w' => r = .returned (.tuple #[]) ∧ w.grownBy w' v.ownBlock ∧ w.drawn ≤ w'.drawn ∧ RowOk base noS w' v e (Cell.n β) (l'.map Cell.c)

/-- .. as the evaluator knows it: behind it the slice is free, or still no one else's. -/
def hP {β : Type} [Cell β] (free : Bool) (e : Nat) (more : List FuncId) (s : List β → Option (List β)) : HFn := fun xs _ h =>
  match xs with
  | .own r u :: ys =>
    if ys.map (fun | .fn g [] => some g | _ => none) = more.map some then
      match h r with
      | some (.row e' k ver es) =>
        if u = ver ∧ e' = e + raw0 ∧ k = Cell.n β then
          match dL Cell.d es with
          | some l => (s l).map fun l' => { v := .p (.tup []), wr := [(r, .row (if free = true then e else e') k ver (l'.map Cell.c))], rd := [r] }
          | none => none
        else none
      | _ => none
    else none
  | _ => none

theorem hP_frame {β : Type} [Cell β] (free : Bool) (e : Nat) (more : List FuncId) (s : List β → Option (List β)) : HFrame (hP free e more s) := by
  refine ⟨fun xs len len' h h' r hr hf hl => ?_, fun xs len h r hr => ?_, fun xs len h r hr => ?_⟩
  · unfold hP at hr ⊢
    split at hr
    · rename_i q u ys
      split at hr
      · rename_i hm
        simp only [hm, ↓reduceIte]
        split at hr
        · rename_i e' k ver es hrow
          split at hr
          · rename_i hc
            split at hr
            · rename_i l hl'
              obtain ⟨l', hs, rfl⟩ := Option.map_eq_some_iff.1 hr
              rw [hf q (by simp), hrow]
              simp only [hc, and_self, ↓reduceIte, hl', hs]
              simp [hc]
            · cases hr
          · cases hr
        · cases hr
      · cases hr
    · cases hr
  · unfold hP at hr
    split at hr
    · split at hr
      · split at hr
        · rename_i hrow
          split at hr
          · split at hr
            · obtain ⟨l', hs, rfl⟩ := Option.map_eq_some_iff.1 hr
              intro q hq
              simp at hq
              subst hq
              simp [hrow]
            · cases hr
          · cases hr
        · cases hr
      · cases hr
    · cases hr
  · unfold hP at hr
    split at hr
    · split at hr
      · split at hr
        · split at hr
          · split at hr
            · obtain ⟨l', hs, rfl⟩ := Option.map_eq_some_iff.1 hr
              simp
            · cases hr
          · cases hr
        · cases hr
      · cases hr
    · cases hr

theorem reps_fns {C : Cx} : ∀ {more : List FuncId} {ys : List AV} {vs : List Value}, ys.map (fun | .fn g [] => some g | _ => none) = more.map some → Reps (RepA C) vs ys → vs = more.map fun g => .func (.func g) #[] #[]
  | [], ys, vs, h, hr => by
    obtain rfl : ys = [] := by simpa using h
    exact List.eq_nil_of_length_eq_zero hr.1
  | g :: more, [], vs, h, hr => by simp at h
  | g :: more, y :: ys, [], h, hr => by have := hr.1; simp at this
  | g :: more, y :: ys, v :: vs, h, hr => by
    simp only [List.map_cons, List.cons.injEq] at h
    obtain ⟨h1, h2⟩ := h
    have hrest := reps_fns (vs := vs) h2 ⟨by have := hr.1; simpa using this, fun i v x hv hx => hr.2 (i + 1) v x (by simpa using hv) (by simpa using hx)⟩
    have h0 := hr.2 0 v y rfl rfl
    split at h1
    · rename_i g'
      cases h1
      cases h0 with
      | @fn _ ws _ hl hh =>
        obtain rfl : ws = [] := List.eq_nil_of_length_eq_zero hl
        rw [hrest]
        rfl
    · cases h1

theorem InPl.heap {β : Type} [Cell β] [Sca β] {f : FuncId} {more : List FuncId} {e : Nat} {s : List β → Option (List β)} (free : Bool) (he : e < raw0) (hc : InPl P f (more.map fun g => .func (.func g) #[] #[]) e s) : HeapC P f (hP free e more s) := by
  intro G base M w0 hp bl rv w vs xs r hH hr hs hvc
  unfold hP at hs
  split at hs
  · rename_i q u ys
    split at hs
    · rename_i hm
      split at hs
      · rename_i e' k ver es hrow
        split at hs
        · rename_i hcnd
          obtain ⟨rfl, rfl, rfl⟩ := hcnd
          split at hs
          · rename_i l hl
            obtain ⟨l', hs', rfl⟩ := Option.map_eq_some_iff.1 hs
            have hes := Sca.list hl
            subst hes
            obtain ⟨hlen, hh⟩ := hr
            rcases vs with _ | ⟨v, vs⟩
            · simp at hlen
            have hv := hh 0 v _ rfl rfl
            have hvr : v = rv q := by
              cases hv with
              | own hw hle heq h1 =>
                simp only [cx] at hw
                rw [rwOf_row hrow] at hw
                simp at hw
                obtain ⟨rfl, rfl⟩ := hw
                exact heq rfl
            have hmore := reps_fns (vs := vs) hm ⟨by simpa using hlen, fun i v x hv hx => hh (i + 1) v x (by simpa using hv) (by simpa using hx)⟩
            subst hvr
            subst hmore
            have hro : RowOk base noS w (rv q) e (Cell.n β) (l.map Cell.c) := ((hH.row q _ _ _ _ hrow).sca (S' := noS)).ety (by rw [ety_raw, ety_small he])
            refine (hc base w (rv q) l l' hs' hH.hb hro).mono fun r w' ⟨hr1, hgb, hdr, hro'⟩ => ?_
            have hety : RowOk base noS w' (rv q) (if free = true then e else e + raw0) (Cell.n β) (l'.map Cell.c) := by
              cases free with
              | true => exact hro'
              | false => exact hro'.ety (by rw [if_neg (by simp), ety_raw, ety_small he])
            obtain ⟨h1, h2⟩ := hH.redo (v1 := rv q) (ver1 := u) hrow (by omega) (.inl rfl) (Nat.le_refl _) (fun _ => rfl) hgb hdr hety
            refine ⟨_, bl, rvSet rv q (rv q), hr1, by simpa [Res.app, setMany] using h1, by simpa [Res.app, setMany] using h2, ?_⟩
            exact .p (.tup rfl (by simp))
          · cases hs
        · cases hs
      · cases hs
    · cases hs
  · cases hs

end
attribute [simp] endF hG gn1 hP
end Go.Proofs.Av
