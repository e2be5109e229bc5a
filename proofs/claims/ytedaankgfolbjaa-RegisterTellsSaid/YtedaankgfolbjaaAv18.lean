/- Plain functions on typed data. -/
import Derived.Test.YtedaankgfolbjaaAv17
set_option linter.unusedVariables false
set_option linter.unusedSimpArgs false
namespace Go.Proofs.Av
open Go.RowKit

class Ty (α : Type) where
  e : α → PV
  d : PV → Option α
  de : ∀ a, d (e a) = some a
  rep : ∀ {S : Stb} {w : World} {v : Value} {x : PV} {a : α}, d x = some a → RepP S w v x → RepP S w v (e a)

/-- What lies in a slice's element. -/
class Cell (α : Type) where
  n : Nat
  c : α → List PV
  d : List PV → Option α
  len : ∀ a, (c a).length = n
  dc : ∀ a, d (c a) = some a
  rep : ∀ {S : Stb} {w : World} {vs : List Value} {xs : List PV} {a : α}, d xs = some a → Reps (RepP S w) vs xs → Reps (RepP S w) vs (c a)

def dL {α : Type} (d : List PV → Option α) : List (List PV) → Option (List α)
  | [] => some []
  | x :: xs =>
    match d x, dL d xs with
    | some a, some l => some (a :: l)
    | _, _ => none

theorem dL_map {α : Type} [Cell α] (l : List α) : dL Cell.d (l.map Cell.c) = some l := by
  induction l with
  | nil => rfl
  | cons a l ih => simp [dL, Cell.dc, ih]

theorem dL_get {α : Type} {d : List PV → Option α} : ∀ {es : List (List PV)} {l : List α}, dL d es = some l → es.length = l.length ∧ ∀ (i : Nat) x a, es[i]? = some x → l[i]? = some a → d x = some a
  | [], l, h => by simp [dL] at h; subst h; exact ⟨rfl, fun i x a h => by simp at h⟩
  | x :: xs, l, h => by
    simp only [dL] at h
    split at h
    · rename_i a l' h1 h2
      simp at h
      subst h
      obtain ⟨k1, k2⟩ := dL_get h2
      refine ⟨by simp [k1], fun i x' a' hx ha => ?_⟩
      cases i with
      | zero => simp at hx ha; subst hx; subst ha; exact h1
      | succ i => exact k2 i x' a' (by simpa using hx) (by simpa using ha)
    · cases h

def eL {α : Type} [Cell α] (l : List α) : PV := .sl (Cell.n α) (l.map Cell.c)

theorem rep_list {α : Type} [Cell α] {S : Stb} {w : World} {v : Value} {k : Nat} {es : List (List PV)} {l : List α} (hd : dL Cell.d es = some l) (h : RepP S w v (.sl k es)) : RepP S w v (eL l) := by
  obtain ⟨hlen, hget⟩ := dL_get hd
  cases h with
  | sl b off g hn hc hm hA hk hcell hrep =>
    -- each element's cells
    have hel : ∀ (i : Nat) x a, es[i]? = some x → l[i]? = some a → k = Cell.n α ∧ ∀ (j : Nat) y, (Cell.c a)[j]? = some y → RepP S w (g i j) y := by
      intro i x a hx ha
      have hxk := hk x (List.mem_of_getElem? hx)
      have hR : Reps (RepP S w) ((List.range k).map (g i)) x := by
        refine ⟨by simp [hxk], fun j v y hv hy => ?_⟩
        simp only [List.getElem?_map, Option.map_eq_some_iff] at hv
        obtain ⟨j', hj', rfl⟩ := hv
        obtain ⟨hj, e⟩ := List.getElem?_eq_some_iff.1 hj'
        simp at e
        subst e
        exact hrep i j x y hx hy
      have hR' := Cell.rep (hget i x a hx ha) hR
      have hkn : k = Cell.n α := by have := hR'.1; rw [Cell.len] at this; simpa using this
      refine ⟨hkn, fun j y hy => ?_⟩
      have hj : j < k := by rw [hkn, ← Cell.len a]; exact (List.getElem?_eq_some_iff.1 hy).1
      exact hR'.2 j _ y (by simp [hj]) hy
    have hes : ∀ (i : Nat) x, (l.map (Cell.c (α := α)))[i]? = some x → ∃ z a, es[i]? = some z ∧ l[i]? = some a ∧ x = Cell.c a := by
      intro i x hx
      obtain ⟨a, ha, rfl⟩ := map_getElem? _ _ _ _ hx
      have hi : i < es.length := by rw [hlen]; exact (List.getElem?_eq_some_iff.1 ha).1
      exact ⟨es[i], a, List.getElem?_eq_getElem hi, ha, rfl⟩
    refine .sl b off g (by rw [List.length_map, ← hlen]; exact hn) hc hm hA (fun x hx => ?_) (fun i j x y hx hy => ?_) (fun i j x y hx hy => ?_)
    · obtain ⟨a, _, rfl⟩ := List.mem_map.1 hx
      exact Cell.len a
    · obtain ⟨z, a, hz, ha, rfl⟩ := hes i x hx
      obtain ⟨hkn, hrp⟩ := hel i z a hz ha
      have hzk := hk z (List.mem_of_getElem? hz)
      have hj : j < z.length := by rw [hzk, hkn, ← Cell.len a]; exact (List.getElem?_eq_some_iff.1 hy).1
      have := hcell i j z z[j] hz (List.getElem?_eq_getElem hj)
      rw [hkn] at this
      exact this
    · obtain ⟨z, a, hz, ha, rfl⟩ := hes i x hx
      exact (hel i z a hz ha).2 j y hy

instance : Ty Int where
  e a := .sc (.int .i64 a)
  d | .sc (.int .i64 a) => some a
    | _ => none
  de _ := rfl
  rep {S w v x a} h k := by
    split at h
    · cases h; exact k
    · cases h

instance : Ty Bool where
  e a := .sc (.bool a)
  d | .sc (.bool a) => some a
    | _ => none
  de _ := rfl
  rep {S w v x a} h k := by
    split at h
    · cases h; exact k
    · cases h

instance : Ty ByteArray where
  e a := .sc (.string a)
  d | .sc (.string a) => some a
    | _ => none
  de _ := rfl
  rep {S w v x a} h k := by
    split at h
    · cases h; exact k
    · cases h

instance {α : Type} [Cell α] : Ty (List α) where
  e l := eL l
  d | .sl _ es => dL Cell.d es
    | _ => none
  de l := dL_map l
  rep {S w v x a} h k := by
    split at h
    · exact rep_list h k
    · cases h

instance : Cell Int where
  n := 1
  c a := [.sc (.int .i64 a)]
  d | [.sc (.int .i64 a)] => some a
    | _ => none
  len _ := rfl
  dc _ := rfl
  rep {S w vs xs a} h k := by
    split at h
    · cases h; exact k
    · cases h

instance : Cell ByteArray where
  n := 1
  c a := [.sc (.string a)]
  d | [.sc (.string a)] => some a
    | _ => none
  len _ := rfl
  dc _ := rfl
  rep {S w vs xs a} h k := by
    split at h
    · cases h; exact k
    · cases h

/-- No result. -/
instance : Ty Unit where
  e _ := .tup []
  d | .tup [] => some ()
    | _ => none
  de _ := rfl
  rep {S w v x a} h k := by
    split at h
    · exact k
    · cases h

instance {α β : Type} [Ty α] [Ty β] : Ty (α × β) where
  e p := .tup [Ty.e p.1, Ty.e p.2]
  d | .tup [x, y] =>
      match Ty.d x, Ty.d y with
      | some a, some b => some (a, b)
      | _, _ => none
    | _ => none
  de p := by simp [Ty.de]
  rep {S w v x a} h k := by
    split at h
    · split at h
      · rename_i x y a b h1 h2
        cases h
        cases k with
        | tup hl hh =>
          rename_i vs
          match vs, hl with
          | [u1, u2], _ =>
            refine .tup rfl (fun i v c hv hc => ?_)
            match i with
            | 0 => simp at hv hc; subst hv; subst hc; exact Ty.rep h1 (hh 0 _ _ rfl rfl)
            | 1 => simp at hv hc; subst hv; subst hc; exact Ty.rep h2 (hh 1 _ _ rfl rfl)
            | n + 2 => simp at hv
      · cases h
    · cases h

/-- Three results. -/
structure T3 (α β γ : Type) where
  a : α
  b : β
  c : γ

instance {α β γ : Type} [Ty α] [Ty β] [Ty γ] : Ty (T3 α β γ) where
  e p := .tup [Ty.e p.1, Ty.e p.2, Ty.e p.3]
  d | .tup [x, y, z] =>
      match Ty.d x, Ty.d y, Ty.d z with
      | some a, some b, some c => some ⟨a, b, c⟩
      | _, _, _ => none
    | _ => none
  de p := by simp [Ty.de]
  rep {S w v x a} h k := by
    split at h
    · split at h
      · rename_i x y z a b c h1 h2 h3
        cases h
        cases k with
        | tup hl hh =>
          rename_i vs
          match vs, hl with
          | [u1, u2, u3], _ =>
            refine .tup rfl (fun i v c hv hc => ?_)
            match i with
            | 0 => simp at hv hc; subst hv; subst hc; exact Ty.rep h1 (hh 0 _ _ rfl rfl)
            | 1 => simp at hv hc; subst hv; subst hc; exact Ty.rep h2 (hh 1 _ _ rfl rfl)
            | 2 => simp at hv hc; subst hv; subst hc; exact Ty.rep h3 (hh 2 _ _ rfl rfl)
            | n + 3 => simp at hv
      · cases h
    · cases h

/-- A struct by its cells. -/
@[reducible]
def tyOfCell {α : Type} (C : Cell α) : Ty α where
  e a := .agg (C.c a)
  d | .agg cs => C.d cs
    | _ => none
  de a := C.dc a
  rep {S w v x a} h k := by
    split at h
    · cases k with
      | agg hl h1 hh =>
        have := C.rep h ⟨hl, hh⟩
        exact .agg this.1 h1 this.2
    · cases h

section
variable {P : Program} {E : Env}

/-- What must hold where a plain function ends. -/
def endT {β : Type} [Ty β] (E : Env) (rs : List ResultVar) (b : β) (e : Exit) (σ : St) : Prop :=
  (e = .normal ∨ e = .ret) ∧
  match ares E σ rs with
  | some (vs, p) => p ∧ (match demAll (fun i => σ.hp[i]?) vs with | some xs => Ty.d (one xs) = some b | none => False)
  | none => False

theorem pureT_of {β : Type} [Ty β] (hE : EnvOk P E) (hm : P.follows .mixedOrders = true) {f : FuncId} {fn : Func} {c : Code} (hf : P.funcs[f]? = some fn) (hb : fn.body = some c) (hin : resIn fn.ntmps fn.results.toList = true) {xs : List PV} {b : β}
    (har : xs.length ≤ fn.ntmps) (h : (∀ x ∈ xs, fitA (.p x)) → ac E fn.ntmps 0 c (endT E fn.results.toList b) { tm := slotsOf (xs.map .p), hp := [] }) :
    ∀ (S : Stb) (w : World) (vs : List Value), (∀ b o, w.heap.size ≤ b → S b o) → Reps (RepP S w) vs xs → Calls P f vs.toArray w fun e w' => ∃ v, e = .returned v ∧ Bel w.heap.size w w' ∧ RepP S w' v (Ty.e b) := by
  intro S w vs hS hr
  have hfit : ∀ x ∈ xs, fitA (.p x) := fun x hx => by
    obtain ⟨i, hi⟩ := List.getElem?_of_mem hx
    have hlt : i < vs.length := by rw [hr.1]; exact (List.getElem?_eq_some_iff.1 hi).1
    exact (RepA.p (C := ⟨S, w, fun _ => none, fun _ => none⟩) (hr.2 i _ x (List.getElem?_eq_getElem hlt) hi)).fit
  refine calls_of_wp hf hb ?_
  have hmono : ∀ {v x}, RepP S w v x → RepP (stb S [] (fun _ => none) (fun _ => undef)) w v x := fun h => h.mono fun b o u s c => ⟨⟨s, by simp, by simp⟩, c⟩
  have hH : RelH S w.heap.size (fun _ => False) w [] (fun _ => none) (fun _ => undef) w :=
    ⟨.refl _ _ _, hS, Nat.le_refl _, by simp, by simp, by simp, by simp, by simp, by simp, by simp⟩
  have hrA : Reps (RepA (cx S [] (fun _ => none) (fun _ => undef) w)) vs (xs.map .p) := by
    refine ⟨by simpa using hr.1, fun i v x hv hx => ?_⟩
    obtain ⟨x0, hx0, rfl⟩ := map_getElem? _ _ _ _ hx
    exact .p (hmono (hr.2 i v x0 hv hx0))
  obtain ⟨hsz, hsl⟩ := slots_init hrA fn.ntmps (by rw [hr.1]; exact har)
  have hR : Rel S w.heap.size (fun _ => False) w ⟨fun _ _ => False, w, fun _ => none, fun _ => none⟩ 0 fn.ntmps { tm := slotsOf (xs.map .p), hp := [] } (fun _ => none) (fun _ => undef)
      { tmps := vs.toArray ++ Array.replicate (fn.ntmps - vs.toArray.size) undef, defers := [] } w :=
    ⟨hH, ⟨fun b o u s => s.elim, by simp, by simp⟩, Nat.le_refl _, by simp, by simp, hsz, hsl, rfl⟩
  refine wp_mono (ac_sound hE hm c _ _ (h hfit) S w.heap.size (fun _ => False) w _ _ w ⟨_, _, hR⟩) fun e a' w' ⟨σ, ⟨bl, rv, hR'⟩, he, hend⟩ => ?_
  split at hend
  · rename_i us p h1
    obtain ⟨h2, h3⟩ := hend
    split at h3
    · rename_i ys h4
      obtain ⟨ws, hrun, hreps⟩ := results_run hE hR' fn hin h1 h2
      have hd := hR'.H.demAll hreps h4
      have hb : Bel w.heap.size w w' := ⟨⟨hR'.H.fr.os, hR'.H.fr.tape, hR'.H.fr.output, hR'.H.fr.size, fun k hk => hR'.H.fr.block k hk (fun h => h)⟩, hR'.H.fr.drawn⟩
      have hfin : RepP S w' (oneV ws) (Ty.e b) := Ty.rep h3 ((one_rep hd).mono fun b o u s c => ⟨s.1, c⟩)
      rcases he with rfl | rfl <;> exact ⟨hR'.df, _, hrun, _, rfl, hb, hfin⟩
    · exact h3.elim
  · exact hend.elim

def fn0 {β : Type} [Ty β] (b : β) : List PV → Option PV
  | [] => some (Ty.e b)
  | _ => none
def fn1 {α β : Type} [Ty α] [Ty β] (f : α → Option β) : List PV → Option PV
  | [x] => match Ty.d x with | some a => (f a).map Ty.e | _ => none
  | _ => none
def fn2 {α α' β : Type} [Ty α] [Ty α'] [Ty β] (f : α → α' → Option β) : List PV → Option PV
  | [x, y] => match Ty.d x, Ty.d y with | some a, some b => (f a b).map Ty.e | _, _ => none
  | _ => none
def fn3 {α α' α'' β : Type} [Ty α] [Ty α'] [Ty α''] [Ty β] (f : α → α' → α'' → Option β) : List PV → Option PV
  | [x, y, z] => match Ty.d x, Ty.d y, Ty.d z with | some a, some b, some c => (f a b c).map Ty.e | _, _, _ => none
  | _ => none
def fn4 {α α' α'' α''' β : Type} [Ty α] [Ty α'] [Ty α''] [Ty α'''] [Ty β] (f : α → α' → α'' → α''' → Option β) : List PV → Option PV
  | [x, y, z, u] => match Ty.d x, Ty.d y, Ty.d z, Ty.d u with | some a, some b, some c, some d => (f a b c d).map Ty.e | _, _, _, _ => none
  | _ => none

section
variable (hE : EnvOk P E) (hm : P.follows .mixedOrders = true) {f : FuncId} {fn : Func} {c : Code} (hf : P.funcs[f]? = some fn) (hb : fn.body = some c) (hin : resIn fn.ntmps fn.results.toList = true)
include hE hm hf hb hin

theorem pure0 {β : Type} [Ty β] {b : β} (h : ac E fn.ntmps 0 c (endT E fn.results.toList b) { tm := slotsOf [], hp := [] }) : PureC P f (fn0 b) := by
  intro S w vs xs y hS hr hy
  unfold fn0 at hy
  split at hy
  · cases hy
    exact pureT_of hE hm hf hb hin (xs := []) (by simp) (fun _ => h) S w vs hS hr
  · cases hy

theorem pure1 {α β : Type} [Ty α] [Ty β] {s : α → Option β} (hl : 1 ≤ fn.ntmps)
    (h : ∀ a b, s a = some b → fitA (.p (Ty.e a)) → ac E fn.ntmps 0 c (endT E fn.results.toList b) { tm := slotsOf [.p (Ty.e a)], hp := [] }) : PureC P f (fn1 s) := by
  intro S w vs xs y hS hr hy
  unfold fn1 at hy
  split at hy
  · split at hy
    · rename_i x a ha
      obtain ⟨b, hb', rfl⟩ := Option.map_eq_some_iff.1 hy
      refine pureT_of hE hm hf hb hin (xs := [Ty.e a]) (by simpa using hl) (fun hf => h a b hb' (hf _ (by simp))) S w vs hS ⟨hr.1, fun i v z hv hz => ?_⟩
      match i with
      | 0 => simp at hz; subst hz; exact Ty.rep ha (hr.2 0 v _ hv rfl)
      | i + 1 => simp at hz
    · cases hy
  · cases hy

theorem pure2 {α α' β : Type} [Ty α] [Ty α'] [Ty β] {s : α → α' → Option β} (hl : 2 ≤ fn.ntmps)
    (h : ∀ a a' b, s a a' = some b → fitA (.p (Ty.e a)) → fitA (.p (Ty.e a')) → ac E fn.ntmps 0 c (endT E fn.results.toList b) { tm := slotsOf [.p (Ty.e a), .p (Ty.e a')], hp := [] }) : PureC P f (fn2 s) := by
  intro S w vs xs y hS hr hy
  unfold fn2 at hy
  split at hy
  · split at hy
    · rename_i x y' a a' ha ha'
      obtain ⟨b, hb', rfl⟩ := Option.map_eq_some_iff.1 hy
      refine pureT_of hE hm hf hb hin (xs := [Ty.e a, Ty.e a']) (by simpa using hl) (fun hf => h a a' b hb' (hf _ (by simp)) (hf _ (by simp))) S w vs hS ⟨hr.1, fun i v z hv hz => ?_⟩
      match i with
      | 0 => simp at hz; subst hz; exact Ty.rep ha (hr.2 0 v _ hv rfl)
      | 1 => simp at hz; subst hz; exact Ty.rep ha' (hr.2 1 v _ hv rfl)
      | i + 2 => simp at hz
    · cases hy
  · cases hy

theorem pure3 {α α' α'' β : Type} [Ty α] [Ty α'] [Ty α''] [Ty β] {s : α → α' → α'' → Option β} (hl : 3 ≤ fn.ntmps)
    (h : ∀ a a' a'' b, s a a' a'' = some b → fitA (.p (Ty.e a)) → fitA (.p (Ty.e a')) → fitA (.p (Ty.e a'')) → ac E fn.ntmps 0 c (endT E fn.results.toList b) { tm := slotsOf [.p (Ty.e a), .p (Ty.e a'), .p (Ty.e a'')], hp := [] }) : PureC P f (fn3 s) := by
  intro S w vs xs y hS hr hy
  unfold fn3 at hy
  split at hy
  · split at hy
    · rename_i x y' z' a a' a'' ha ha' ha''
      obtain ⟨b, hb', rfl⟩ := Option.map_eq_some_iff.1 hy
      refine pureT_of hE hm hf hb hin (xs := [Ty.e a, Ty.e a', Ty.e a'']) (by simpa using hl) (fun hf => h a a' a'' b hb' (hf _ (by simp)) (hf _ (by simp)) (hf _ (by simp))) S w vs hS ⟨hr.1, fun i v z hv hz => ?_⟩
      match i with
      | 0 => simp at hz; subst hz; exact Ty.rep ha (hr.2 0 v _ hv rfl)
      | 1 => simp at hz; subst hz; exact Ty.rep ha' (hr.2 1 v _ hv rfl)
      | 2 => simp at hz; subst hz; exact Ty.rep ha'' (hr.2 2 v _ hv rfl)
      | i + 3 => simp at hz
    · cases hy
  · cases hy

theorem pure4 {α α' α'' α''' β : Type} [Ty α] [Ty α'] [Ty α''] [Ty α'''] [Ty β] {s : α → α' → α'' → α''' → Option β} (hl : 4 ≤ fn.ntmps)
    (h : ∀ a a' a'' a''' b, s a a' a'' a''' = some b → fitA (.p (Ty.e a)) → fitA (.p (Ty.e a')) → fitA (.p (Ty.e a'')) → fitA (.p (Ty.e a''')) →
      ac E fn.ntmps 0 c (endT E fn.results.toList b) { tm := slotsOf [.p (Ty.e a), .p (Ty.e a'), .p (Ty.e a''), .p (Ty.e a''')], hp := [] }) : PureC P f (fn4 s) := by
  intro S w vs xs y hS hr hy
  unfold fn4 at hy
  split at hy
  · split at hy
    · rename_i x y' z' u' a a' a'' a''' ha ha' ha'' ha'''
      obtain ⟨b, hb', rfl⟩ := Option.map_eq_some_iff.1 hy
      refine pureT_of hE hm hf hb hin (xs := [Ty.e a, Ty.e a', Ty.e a'', Ty.e a''']) (by simpa using hl) (fun hf => h a a' a'' a''' b hb' (hf _ (by simp)) (hf _ (by simp)) (hf _ (by simp)) (hf _ (by simp))) S w vs hS ⟨hr.1, fun i v z hv hz => ?_⟩
      match i with
      | 0 => simp at hz; subst hz; exact Ty.rep ha (hr.2 0 v _ hv rfl)
      | 1 => simp at hz; subst hz; exact Ty.rep ha' (hr.2 1 v _ hv rfl)
      | 2 => simp at hz; subst hz; exact Ty.rep ha'' (hr.2 2 v _ hv rfl)
      | 3 => simp at hz; subst hz; exact Ty.rep ha''' (hr.2 3 v _ hv rfl)
      | i + 4 => simp at hz
    · cases hy
  · cases hy

end

theorem e_int (a : Int) : Ty.e a = .sc (.int .i64 a) := rfl
theorem e_bool (a : Bool) : Ty.e a = .sc (.bool a) := rfl
theorem e_str (a : ByteArray) : Ty.e a = .sc (.string a) := rfl
theorem e_list {α : Type} [Cell α] (l : List α) : Ty.e l = .sl (Cell.n α) (l.map Cell.c) := rfl
theorem e_unit : Ty.e () = .tup [] := rfl
theorem e_two {α β : Type} [Ty α] [Ty β] (p : α × β) : Ty.e p = .tup [Ty.e p.1, Ty.e p.2] := rfl
theorem e_three {α β γ : Type} [Ty α] [Ty β] [Ty γ] (p : T3 α β γ) : Ty.e p = .tup [Ty.e p.1, Ty.e p.2, Ty.e p.3] := rfl
theorem d_int (a : Int) : Ty.d (.sc (.int .i64 a)) = some a := rfl
theorem d_bool (a : Bool) : Ty.d (.sc (.bool a)) = some a := rfl
theorem d_str (a : ByteArray) : Ty.d (.sc (.string a)) = some a := rfl
theorem d_list {α : Type} [Cell α] (k : Nat) (es : List (List PV)) : (Ty.d (.sl k es) : Option (List α)) = dL Cell.d es := rfl
theorem d_unit : Ty.d (.tup []) = some () := rfl
theorem d_two {α β : Type} [Ty α] [Ty β] (x y : PV) : (Ty.d (.tup [x, y]) : Option (α × β)) = match Ty.d x, Ty.d y with | some a, some b => some (a, b) | _, _ => none := rfl
theorem d_three {α β γ : Type} [Ty α] [Ty β] [Ty γ] (x y z : PV) : (Ty.d (.tup [x, y, z]) : Option (T3 α β γ)) = match Ty.d x, Ty.d y, Ty.d z with | some a, some b, some c => some ⟨a, b, c⟩ | _, _, _ => none := rfl
theorem n_int : Cell.n Int = 1 := rfl
theorem c_int (a : Int) : Cell.c a = [.sc (.int .i64 a)] := rfl
theorem n_str : Cell.n ByteArray = 1 := rfl
theorem c_str (a : ByteArray) : Cell.c a = [.sc (.string a)] := rfl
theorem dc_int (a : Int) : Cell.d [.sc (.int .i64 a)] = some a := rfl
theorem dc_str (a : ByteArray) : Cell.d [.sc (.string a)] = some a := rfl
theorem dL_map' {α : Type} [Cell α] (l : List α) : dL Cell.d (l.map fun a => Cell.c a) = some l := dL_map l
theorem dL_ints (l : List Int) : dL (α := Int) Cell.d (l.map fun a => [.sc (.int .i64 a)]) = some l := dL_map l
theorem dL_strs (l : List ByteArray) : dL (α := ByteArray) Cell.d (l.map fun a => [.sc (.string a)]) = some l := dL_map l

/-! Lists, element by element. -/
theorem all_take_succ {α : Type} {p : α → Prop} {l : List α} {i : Nat} (h : i < l.length) : (∀ f ∈ l.take (i + 1), p f) ↔ (∀ f ∈ l.take i, p f) ∧ p l[i] := by
  rw [List.take_succ_eq_append_getElem h]
  constructor
  · intro hh
    exact ⟨fun f hf => hh f (List.mem_append_left _ hf), hh _ (List.mem_append_right _ (List.mem_singleton.2 rfl))⟩
  · rintro ⟨h1, h2⟩ f hf
    rw [List.mem_append] at hf
    rcases hf with hf | hf
    · exact h1 f hf
    · simp at hf; subst hf; exact h2
theorem eq_take_succ {α : Type} {a b : List α} {i : Nat} (h : i < a.length) (h' : i < b.length) : a.take (i + 1) = b.take (i + 1) ↔ a.take i = b.take i ∧ a[i] = b[i] := by
  rw [List.take_succ_eq_append_getElem h, List.take_succ_eq_append_getElem h']
  constructor
  · intro hh
    have := List.append_inj' hh rfl
    exact ⟨this.1, by simpa using this.2⟩
  · rintro ⟨h1, h2⟩
    rw [h1, h2]

end

attribute [simp] Int.ofNat_inj endT fn0 fn1 fn2 fn3 fn4 Ty.de dL dL_map dL_map' dL_ints dL_strs e_int e_bool e_str e_list e_unit e_two e_three d_int d_bool d_str d_list d_unit d_two d_three n_int c_int n_str c_str dc_int dc_str

end Go.Proofs.Av
