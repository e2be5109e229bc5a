/- Contracts; what the tables must say; the operations one by one. -/
import Derived.Test.YtedaankgfolbjaaAv5b
namespace Go.Proofs.Av
open Go.RowKit

def ShOk : TypeDesc → Sh → Prop
  | .int k, .int k' => k = k'
  | .bool, .bool => True
  | .string, .str => True
  | .struct fs, .struct l => fs.toList.map (fun f => (f.offset, f.type)) = l
  | .array n e, .arr n' e' => n = n' ∧ e = e'
  | .slice e, .slice e' => e = e'
  | .pointer e, .ptr e' => e = e'
  | .func _ _ _, .other => True
  | .map _ _, .other => True
  | _, _ => False

/-- The parts' types are known. -/
def partsOk (P : Program) (t : TypeId) : Bool :=
  match P.underlying t with
  | some (.struct l) => (l.toList.mapM fun f => (P.info? f.type).map fun i => (f.offset, i.size)).isSome
  | some (.array _ e) => (P.info? e).isSome
  | _ => true

structure TyOk (P : Program) (t : TypeId) (i : TyI) : Prop where
  info : ∃ j, P.info? t = some j ∧ j.size = i.size ∧ j.bytes = i.bytes ∧ ∃ z, j.zero = some z ∧ z.cells.toList = i.zero
  und : ∃ d, P.underlying t = some d ∧ ShOk d i.sh
  zone : ∀ z ∈ i.zero, z.oneCell' = true
  zlen : i.zero.length = i.size
  parts : partsOk P t = true

def Reps {α β : Type} (R : α → β → Prop) (vs : List α) (xs : List β) : Prop := vs.length = xs.length ∧ ∀ (i : Nat) v x, vs[i]? = some v → xs[i]? = some x → R v x

/-- A function that only reckons: what it hands back for plain values; nothing that was there turns. -/
def PureC (P : Program) (f : FuncId) (s : List PV → Option PV) : Prop :=
  ∀ (S : Stb) (w : World) (vs : List Value) (xs : List PV) (y : PV), (∀ b o, w.heap.size ≤ b → S b o) → Reps (RepP S w) vs xs → s xs = some y →
    Calls P f vs.toArray w fun e w' => ∃ v, e = .returned v ∧ Bel w.heap.size w w' ∧ RepP S w' v y

def setMany (hp : List HObj) : List (Nat × HObj) → List HObj
  | [] => hp
  | (i, o) :: r => setMany (hp.set i o) r

def Res.app (r : Res) (hp : List HObj) : List HObj := setMany hp r.wr ++ r.nw

/-- A function that works on the memory of its caller's own. -/
def HeapC (P : Program) (f : FuncId) (s : HFn) : Prop :=
  ∀ (G : Stb) (base : Nat) (M : Nat → Prop) (w0 : World) (hp : List HObj) (bl : Nat → Option Nat) (rv : Nat → Value) (w : World) (vs : List Value) (xs : List AV) (r : Res),
    RelH G base M w0 hp bl rv w → Reps (RepA (cx G hp bl rv w)) vs xs → s xs hp.length (fun i => hp[i]?) = some r → r.vc →
    Calls P f vs.toArray w fun e w' => ∃ v bl' rv', e = .returned v ∧ RelH G base M w0 (r.app hp) bl' rv' w' ∧ (cx G hp bl rv w).le (cx G (r.app hp) bl' rv' w') ∧ RepA (cx G (r.app hp) bl' rv' w') v r.v

def Enters (P : Program) (f : FuncId) : Prop := ∀ args w, (callFunc f args).run P w = .ok (.enter f args) w

structure EqOk (P : Program) (t : TypeId) (z : List Value) : Prop where
  eq : ∀ (xs ys : List PV) (vs us : List Value) (S : Stb) (w1 : World) (b : Bool) (w : World), likeAll z xs = true → likeAll z ys = true → cellsEq xs ys = some b → Reps (RepP S w1) vs xs → Reps (RepP S w1) us ys →
    (binOp .eql t (.agg vs.toArray) (.agg us.toArray)).run P w = .ok (.bool b) w
  ne : ∀ (xs ys : List PV) (vs us : List Value) (S : Stb) (w1 : World) (b : Bool) (w : World), likeAll z xs = true → likeAll z ys = true → cellsEq xs ys = some b → Reps (RepP S w1) vs xs → Reps (RepP S w1) us ys →
    (binOp .neq t (.agg vs.toArray) (.agg us.toArray)).run P w = .ok (.bool (!b)) w
  gd : ∀ (op : BinOp) (x y : Operand) (vs us : Array Value) (w : World), (eqGuard op t x y (.agg vs) (.agg us)).run P w = .ok () w

/-- What is asked of a heap function beside: that it hangs on what it looks at alone. -/
structure HFrame (s : HFn) : Prop where
  frame : ∀ xs len len' h h' r, s xs len h = some r → (∀ i ∈ r.rd, h' i = h i) → (r.al = true → len' = len) → s xs len' h' = some r
  wr : ∀ xs len h r, s xs len h = some r → ∀ q ∈ r.wr, (h q.1).isSome = true ∧ q.1 ∈ r.rd
  nw : ∀ xs len h r, s xs len h = some r → r.nw ≠ [] → r.al = true

structure EnvOk (P : Program) (E : Env) : Prop where
  ty : ∀ t i, E.ty t = some i → TyOk P t i
  eqT : ∀ t i, E.eqT t = true → E.ty t = some i → EqOk P t i.zero
  pure : ∀ f s, E.pure f = some s → PureC P f s ∧ Enters P f
  heap : ∀ f s, E.heap f = some s → HeapC P f s ∧ Enters P f ∧ HFrame s

section
variable {P : Program} {E : Env} {t : TypeId} {i : TyI}

theorem TyOk.sizeOf (h : TyOk P t i) (w : World) : (Go.sizeOf t).run P w = .ok i.size w := by
  obtain ⟨j, hj, h1, _⟩ := h.info
  simp [Go.sizeOf, typeInfo, hj, h1]
theorem TyOk.typeInfo (h : TyOk P t i) (w : World) : ∃ j, (Go.typeInfo t).run P w = .ok j w ∧ j.size = i.size ∧ j.bytes = i.bytes := by
  obtain ⟨j, hj, h1, h2, _⟩ := h.info
  exact ⟨j, by simp [Go.typeInfo, hj], h1, h2⟩
theorem TyOk.isAgg (h : TyOk P t i) (w : World) : (Go.isAgg t).run P w = .ok i.agg w := by
  obtain ⟨d, hd, hs⟩ := h.und
  obtain ⟨sh, size, bytes, zero⟩ := i
  cases d <;> cases sh <;> simp [ShOk] at hs <;> simp [Go.isAgg, run_underlying hd, TyI.agg]
theorem TyOk.zeroV (h : TyOk P t i) (w : World) : ∃ z, (Go.zeroValue t).run P w = .ok z w ∧ z.cells.toList = i.zero := by
  obtain ⟨j, hj, _, _, z, hz, hc⟩ := h.info
  exact ⟨z, by simp [Go.zeroValue, Go.typeInfo, hj, hz], hc⟩
theorem TyOk.struct {fs : List (Nat × TypeId)} {a b : Nat} {z : List Value} (h : TyOk P t ⟨.struct fs, a, b, z⟩) : ∃ l : Array Field, P.underlying t = some (.struct l) ∧ l.toList.map (fun f => (f.offset, f.type)) = fs := by
  obtain ⟨d, hd, hs⟩ := h.und
  cases d <;> simp [ShOk] at hs
  exact ⟨_, hd, hs⟩
theorem TyOk.arr {n e : Nat} {a b : Nat} {z : List Value} (h : TyOk P t ⟨.arr n e, a, b, z⟩) : P.underlying t = some (.array n e) := by
  obtain ⟨d, hd, hs⟩ := h.und
  cases d <;> simp [ShOk] at hs
  obtain ⟨rfl, rfl⟩ := hs
  exact hd
theorem TyOk.slice {e : Nat} {a b : Nat} {z : List Value} (h : TyOk P t ⟨.slice e, a, b, z⟩) : P.underlying t = some (.slice e) := by
  obtain ⟨d, hd, hs⟩ := h.und
  cases d <;> simp [ShOk] at hs
  subst hs
  exact hd
theorem TyOk.str {a b : Nat} {z : List Value} (h : TyOk P t ⟨.str, a, b, z⟩) : P.underlying t = some .string := by
  obtain ⟨d, hd, hs⟩ := h.und
  cases d <;> simp [ShOk] at hs
  exact hd
theorem TyOk.bool {a b : Nat} {z : List Value} (h : TyOk P t ⟨.bool, a, b, z⟩) : P.underlying t = some .bool := by
  obtain ⟨d, hd, hs⟩ := h.und
  cases d <;> simp [ShOk] at hs
  exact hd
theorem TyOk.int {k : IntKind} {a b : Nat} {z : List Value} (h : TyOk P t ⟨.int k, a, b, z⟩) : P.underlying t = some (.int k) := by
  obtain ⟨d, hd, hs⟩ := h.und
  cases d <;> simp [ShOk] at hs
  subst hs
  exact hd
end

section
variable {P : Program} {E : Env} {G : Stb} {base : Nat} {M : Nat → Prop} {w0 w : World} {hp : List HObj} {bl : Nat → Option Nat} {rv : Nat → Value}

theorem RepP.scv {S : Stb} {v u : Value} (h : RepP S w v (.sc u)) : v = u := by cases h; rfl
theorem RepA.scv {C : Cx} {v u : Value} (h : RepA C v (.p (.sc u))) : v = u := by cases h with | p h => exact h.scv
theorem RepA.pv {C : Cx} {v : Value} {x : PV} (h : RepA C v (.p x)) : RepP C.S C.w v x := by cases h with | p h => exact h

/-- A growing slice, read. -/
theorem RelH.own_rep (h : RelH G base M w0 hp bl rv w) {r e k ver : Nat} {es : List (List PV)} (hr : hp[r]? = some (.row e k ver es)) (hraw : e < raw0) : RepP (stb G hp bl rv) w (rv r) (.sl k es) := by
  rcases h.row r e k ver es hr with ⟨rfl, rfl, hv⟩ | ⟨hk, xs, ho, h1, h2, h3⟩
  · rw [hv]
    exact .sl 0 0 (fun _ _ => undef) rfl (Nat.le_refl _) (by simp [maxLen]) (fun h => absurd h (Nat.lt_irrefl 0)) (by simp) (by simp) (by simp)
  · rcases ho.2 with ⟨hv, hn⟩ | ⟨g, cap, cur, hv, hbg, hg, hnc, hcm, hcs, htake⟩
    · have hes : es = [] := List.eq_nil_of_length_eq_zero hn
      subst hes
      rw [hv]
      exact .sl 0 0 (fun _ _ => undef) rfl (Nat.le_refl _) (by simp [maxLen]) (fun h => absurd h (Nat.lt_irrefl 0)) (by simp) (by simp) (by simp)
    · rw [hv]
      have hob : (rv r).ownBlock = some g := by rw [hv]; rfl
      have hlt : ∀ (i j : Nat) el x, es[i]? = some el → el[j]? = some x → i * k + j < es.length * k := by
        intro i j el x he hx
        have hi : i < es.length := (List.getElem?_eq_some_iff.1 he).1
        have hj : j < k := by rw [← h2 el (List.mem_of_getElem? he)]; exact (List.getElem?_eq_some_iff.1 hx).1
        have : (i + 1) * k ≤ es.length * k := Nat.mul_le_mul_right k hi
        rw [Nat.add_mul] at this
        omega
      refine .sl g 0 (fun i j => xs.getD (i * k + j) undef) rfl hnc hcm (fun _ => rfl) h2 (fun i j el x he hx => ?_) (fun i j el x he hx => ?_)
      · obtain ⟨u, hu, _⟩ := h3 i j el x he hx
        have hd : xs.getD (i * k + j) undef = u := by simp [List.getD, hu]
        rw [hd]
        refine ⟨by rw [Nat.zero_add]; exact ownsRow_cell ho hob hu, ?_, h1 u (List.mem_of_getElem? hu)⟩
        refine ⟨h.hG _ _ hbg, fun i' hi' => h.brow r i' _ _ _ _ g hr hob hi', fun i' e' k' v' es' hr' hb' => ?_⟩
        have := h.rinj i' r _ _ _ _ _ _ _ _ g hr' hr hb' hob
        subst this
        rw [hr] at hr'
        simp at hr'
        obtain ⟨rfl, rfl, rfl, rfl⟩ := hr'
        rw [Nat.zero_add]
        exact ⟨hraw, hlt i j el x he hx⟩
      · obtain ⟨u, hu, hrep⟩ := h3 i j el x he hx
        have hd : xs.getD (i * k + j) undef = u := by simp [List.getD, hu]
        rw [hd]
        exact hrep

theorem RelH.demC (h : RelH G base M w0 hp bl rv w) {v : Value} {a : AV} {x : PV} (hv : RepA (cx G hp bl rv w) v a) (hx : demC (fun i => hp[i]?) a = some x) : RepP (stb G hp bl rv) w v x := by
  cases a <;> simp [Av.demC] at hx
  case p y => subst hx; exact hv.pv
  case own r u =>
    split at hx
    · rename_i e k ver es hr
      split at hx
      · rename_i huv
        simp at hx
        subst hx
        cases hv with
        | own hw hle heq h1 =>
          simp only [cx] at hw
          rw [rwOf_row hr] at hw
          simp at hw
          obtain ⟨rfl, rfl⟩ := hw
          rw [heq huv.1]
          exact h.own_rep hr huv.2
      · cases hx
    · cases hx

theorem RelH.demCs (h : RelH G base M w0 hp bl rv w) : ∀ {vs : List Value} {as : List AV} {xs : List PV}, Reps (RepA (cx G hp bl rv w)) vs as → demCs (fun i => hp[i]?) as = some xs → Reps (RepP (stb G hp bl rv) w) vs xs := by
  intro vs as
  induction as generalizing vs with
  | nil =>
    intro xs hr hx
    simp [Av.demCs] at hx
    subst hx
    exact ⟨hr.1, fun i v x _ hx => by simp at hx⟩
  | cons a as ih =>
    intro xs hr hx
    obtain ⟨hl, hr⟩ := hr
    rcases vs with _ | ⟨v, vs⟩
    · simp at hl
    simp only [Av.demCs] at hx
    split at hx
    · rename_i x xs' h1 h2
      simp at hx
      subst hx
      have h0 := h.demC (hr 0 v a rfl rfl) h1
      have hrest := ih (vs := vs) ⟨by simpa using hl, fun i v x hv hx => hr (i + 1) v x (by simpa using hv) (by simpa using hx)⟩ h2
      refine ⟨by simp [hrest.1], fun i v' x' hv hx => ?_⟩
      rcases i with _ | i
      · simp at hv hx; subst hv; subst hx; exact h0
      · exact hrest.2 i v' x' (by simpa using hv) (by simpa using hx)
    · cases hx

theorem RelH.dem (h : RelH G base M w0 hp bl rv w) {v : Value} {a : AV} {x : PV} (hv : RepA (cx G hp bl rv w) v a) (hx : dem (fun i => hp[i]?) a = some x) : RepP (stb G hp bl rv) w v x := by
  cases a
  case agg cs =>
    simp [Av.dem] at hx
    obtain ⟨xs, hxs, rfl⟩ := hx
    cases hv with
    | agg hl h1 hr =>
      have := h.demCs ⟨hl, hr⟩ hxs
      exact .agg this.1 h1 this.2
  all_goals exact h.demC hv (by simpa [Av.dem] using hx)

theorem RelH.demAll (h : RelH G base M w0 hp bl rv w) : ∀ {vs : List Value} {as : List AV} {xs : List PV}, Reps (RepA (cx G hp bl rv w)) vs as → demAll (fun i => hp[i]?) as = some xs → Reps (RepP (stb G hp bl rv) w) vs xs := by
  intro vs as
  induction as generalizing vs with
  | nil =>
    intro xs hr hx
    simp [Av.demAll] at hx
    subst hx
    exact ⟨hr.1, fun i v x _ hx => by simp at hx⟩
  | cons a as ih =>
    intro xs hr hx
    obtain ⟨hl, hr⟩ := hr
    rcases vs with _ | ⟨v, vs⟩
    · simp at hl
    simp only [Av.demAll] at hx
    split at hx
    · rename_i x xs' h1 h2
      simp at hx
      subst hx
      have h0 := h.dem (hr 0 v a rfl rfl) h1
      have hrest := ih (vs := vs) ⟨by simpa using hl, fun i v x hv hx => hr (i + 1) v x (by simpa using hv) (by simpa using hx)⟩ h2
      refine ⟨by simp [hrest.1], fun i v' x' hv hx => ?_⟩
      rcases i with _ | i
      · simp at hv hx; subst hv; subst hx; exact h0
      · exact hrest.2 i v' x' (by simpa using hv) (by simpa using hx)
    · cases hx

/-- An aggregate's cells. -/
theorem RepA.cells {C : Cx} {v : Value} {a : AV} (h : RepA C v a) (hk : a.okCells = true) : Reps (RepA C) v.cells.toList a.cells ∧ ∀ u ∈ v.cells.toList, u.oneCell' = true := by
  have single : ∀ (v : Value) (a : AV), RepA C v a → v.oneCell' = true → Reps (RepA C) v.cells.toList [a] ∧ ∀ u ∈ v.cells.toList, u.oneCell' = true := by
    intro v a h h1
    have hc : v.cells = #[v] := by cases v <;> simp_all [Value.cells, Value.oneCell']
    rw [hc]
    refine ⟨⟨rfl, fun i u x hu hx => ?_⟩, by simpa using h1⟩
    rcases i with _ | i
    · simp at hu hx; subst hu; subst hx; exact h
    · simp at hu
  cases a with
  | p x =>
    cases x with
    | sc u => exact single _ _ h (h.pv.one (by simp) (by simp))
    | agg cs =>
      cases h with
      | p h =>
        cases h with
        | @agg vs _ hl h1 hr =>
          simp only [Value.cells, AV.cells]
          refine ⟨⟨by simpa using hl, fun i u y hu hy => ?_⟩, by simpa using h1⟩
          rw [List.getElem?_map] at hy
          obtain ⟨c0, hc0, rfl⟩ := Option.map_eq_some_iff.1 hy
          exact .p (hr i u c0 (by simpa using hu) hc0)
    | sl k es => exact single _ _ h (h.pv.one (by simp) (by simp))
    | tup vs => simp [AV.okCells] at hk
  | agg cs =>
    cases h with
    | @agg vs _ hl h1 hr =>
      simp only [Value.cells, AV.cells]
      exact ⟨⟨by simpa using hl, fun i u y hu hy => hr i u y (by simpa using hu) hy⟩, by simpa using h1⟩
  | own r u => exact single _ _ h (by cases h with | own _ _ _ h1 => exact h1)
  | ptr b o => exact single _ _ h (by cases h; rfl)
  | bsl b k lo hi => exact single _ _ h (by cases h; rfl)
  | elt cs => exact single _ _ h (by cases h; rfl)
  | fn f cs => exact single _ _ h (by cases h; rfl)
  | tup vs => simp [AV.okCells] at hk
  | grd c x => simp [AV.okCells] at hk
  | dead => simp [AV.okCells] at hk

end
end Go.Proofs.Av
