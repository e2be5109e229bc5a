/- Abstract values, and what it means that a value in a world stands for one. -/
import Derived.Below
import Derived.Maps.AppendAt
import Derived.Laws.CopyRow
import Derived.Laws.Cells
import Derived.Deep.Draws
import Derived.Orders
import Derived.WalkKit
import Derived.KernelRfl
namespace Go.Proofs.Av
open Go.RowKit

/-- Below block number B nothing has turned; what is drawn grows. -/
structure Bel (B : Nat) (w w' : World) : Prop extends Below B w w' where
  drawn : w.drawn ≤ w'.drawn

theorem Bel.refl (B : Nat) (w : World) : Bel B w w := ⟨.refl _ _, Nat.le_refl _⟩
theorem Bel.alloc (B : Nat) (w : World) (hB : B ≤ w.heap.size) (o : Obj) : Bel B w (w.alloc o) := ⟨(Below.refl _ _).alloc hB o, Nat.le_refl _⟩
theorem Bel.drew (B : Nat) (w : World) : Bel B w w.drew := ⟨(Below.refl _ _).drew, Nat.le_succ _⟩

/-- A plain value: no address in it but those of slices that nobody writes to. -/
inductive PV where
  | sc (v : Value)
  | agg (cs : List PV)
  | sl (k : Nat) (es : List (List PV))
  | tup (vs : List PV)

/-- What a slot may hold. -/
inductive AV where
  | p (x : PV)
  | own (r ver : Nat)
  | agg (cs : List AV)
  | ptr (b off : Nat)
  | bsl (b k lo hi : Nat)
  | elt (cs : List PV)
  | fn (f : FuncId) (cap : List AV)
  | tup (vs : List AV)
  | grd (c : Bool) (x : AV)
  | dead

/-- What lies in the memory of the call's own: a variable; or a slice that grows. (A slice whose element's type is told by a number from raw0 on is no one else's yet: it may be sorted where it lies.) -/
inductive HObj where
  | box (cs : List AV)
  | row (e k ver : Nat) (es : List (List PV))

def raw0 : Nat := 4294967296
def ety (e : Nat) : Nat := if e < raw0 then e else e - raw0
theorem ety_small {e : Nat} (h : e < raw0) : ety e = e := if_pos h
theorem ety_raw (e : Nat) : ety (e + raw0) = e := by unfold ety; rw [if_neg (by omega)]; omega

abbrev Stb := Nat → Nat → Prop

inductive RepP (S : Stb) (w : World) : Value → PV → Prop
  | sc {v : Value} (h : v.oneCell' = true) : RepP S w v (.sc v)
  | agg {vs : List Value} {cs : List PV} (hl : vs.length = cs.length) (h1 : ∀ v ∈ vs, v.oneCell' = true)
      (h : ∀ (i : Nat) v c, vs[i]? = some v → cs[i]? = some c → RepP S w v c) : RepP S w (.agg vs.toArray) (.agg cs)
  | tup {vs : List Value} {cs : List PV} (hl : vs.length = cs.length)
      (h : ∀ (i : Nat) v c, vs[i]? = some v → cs[i]? = some c → RepP S w v c) : RepP S w (.tuple vs.toArray) (.tup cs)
  | sl {A : Option Addr} {n c k : Nat} {es : List (List PV)} (b off : Nat) (g : Nat → Nat → Value)
      (hn : es.length = n) (hc : n ≤ c) (hm : c ≤ maxLen) (hA : 0 < n → A = some ⟨b, off, none⟩)
      (hk : ∀ e ∈ es, e.length = k)
      (hcell : ∀ (i j : Nat) e x, es[i]? = some e → e[j]? = some x → w.cell? ⟨b, off + i * k + j, none⟩ = some (g i j) ∧ S b (off + i * k + j) ∧ (g i j).oneCell' = true)
      (hrep : ∀ (i j : Nat) e x, es[i]? = some e → e[j]? = some x → RepP S w (g i j) x) : RepP S w (.slice A n c) (.sl k es)

theorem RepP.mono {S S' : Stb} {w w' : World} {v : Value} {x : PV}
    (hw : ∀ b o u, S b o → w.cell? ⟨b, o, none⟩ = some u → S' b o ∧ w'.cell? ⟨b, o, none⟩ = some u) (h : RepP S w v x) : RepP S' w' v x := by
  induction h with
  | sc h => exact .sc h
  | agg hl h1 _ ih => exact .agg hl h1 ih
  | tup hl _ ih => exact .tup hl ih
  | sl b off g hn hc hm hA hk hcell _ ih =>
    refine .sl b off g hn hc hm hA hk (fun i j e x he hx => ?_) ih
    obtain ⟨h1, h2, h3⟩ := hcell i j e x he hx
    obtain ⟨k1, k2⟩ := hw _ _ _ h2 h1
    exact ⟨k2, k1, h3⟩

/-- Where the variables lie, and what the growing slices are. -/
structure Cx where
  S : Stb
  w : World
  bl : Nat → Option Nat
  rw_ : Nat → Option (Nat × Value)

inductive RepA (C : Cx) : Value → AV → Prop
  | p {v x} (h : RepP C.S C.w v x) : RepA C v (.p x)
  | own {v r u ver val} (h : C.rw_ r = some (ver, val)) (hu : u ≤ ver) (hv : u = ver → v = val) (h1 : v.oneCell' = true) : RepA C v (.own r u)
  | agg {vs : List Value} {cs : List AV} (hl : vs.length = cs.length) (h1 : ∀ v ∈ vs, v.oneCell' = true)
      (h : ∀ (i : Nat) v c, vs[i]? = some v → cs[i]? = some c → RepA C v c) : RepA C (.agg vs.toArray) (.agg cs)
  | ptr {b B off} (h : C.bl b = some B) : RepA C (.pointer (some ⟨B, off, none⟩)) (.ptr b off)
  | bsl {b B k lo hi c n : Nat} {A : Option Addr} (h : C.bl b = some B) (hn : lo + n = hi) (hc : n ≤ c) (hm : c ≤ maxLen) (hB : ∀ a, A = some a → a.block = B) (hA : 0 < n → A = some ⟨B, lo * k, none⟩) : RepA C (.slice A n c) (.bsl b k lo hi)
  | elt {cs : List PV} (b off : Nat) (g : Nat → Value)
      (hcell : ∀ (j : Nat) x, cs[j]? = some x → C.w.cell? ⟨b, off + j, none⟩ = some (g j) ∧ C.S b (off + j) ∧ (g j).oneCell' = true)
      (hrep : ∀ (j : Nat) x, cs[j]? = some x → RepP C.S C.w (g j) x) : RepA C (.pointer (some ⟨b, off, none⟩)) (.elt cs)
  | fn {f : FuncId} {vs : List Value} {cs : List AV} (hl : vs.length = cs.length)
      (h : ∀ (i : Nat) v c, vs[i]? = some v → cs[i]? = some c → RepA C v c) : RepA C (.func (.func f) #[] vs.toArray) (.fn f cs)
  | tup {vs : List Value} {cs : List AV} (hl : vs.length = cs.length)
      (h : ∀ (i : Nat) v c, vs[i]? = some v → cs[i]? = some c → RepA C v c) : RepA C (.tuple vs.toArray) (.tup cs)
  | grd {v c x} (ht : c = true → RepA C v x) (hf : c = false → v = undef) : RepA C v (.grd c x)
  | dead {v} : RepA C v .dead

/-- From one state of memory to a later one. -/
structure Cx.le (C C' : Cx) : Prop where
  w : ∀ b o u, C.S b o → C.w.cell? ⟨b, o, none⟩ = some u → C'.S b o ∧ C'.w.cell? ⟨b, o, none⟩ = some u
  bl : ∀ b B, C.bl b = some B → C'.bl b = some B
  rw_ : ∀ r ver val, C.rw_ r = some (ver, val) → ∃ ver' val', C'.rw_ r = some (ver', val') ∧ ver ≤ ver' ∧ (ver' = ver → val' = val)

theorem Cx.le.refl (C : Cx) : C.le C := ⟨fun _ _ _ s c => ⟨s, c⟩, fun _ _ h => h, fun _ ver val h => ⟨ver, val, h, Nat.le_refl _, fun _ => rfl⟩⟩

theorem Cx.le.trans {A B C : Cx} (h : A.le B) (k : B.le C) : A.le C := by
  refine ⟨fun b o u s c => k.w b o u (h.w b o u s c).1 (h.w b o u s c).2, fun b B' s => k.bl b B' (h.bl b B' s), fun r ver val s => ?_⟩
  obtain ⟨v1, x1, h1, h2, h3⟩ := h.rw_ r ver val s
  obtain ⟨v2, x2, k1, k2, k3⟩ := k.rw_ r v1 x1 h1
  exact ⟨v2, x2, k1, Nat.le_trans h2 k2, fun e => by
    have e1 : v1 = ver := by omega
    rw [k3 (by omega), h3 e1]⟩

theorem RepP.le {C C' : Cx} (hle : C.le C') {v : Value} {x : PV} (h : RepP C.S C.w v x) : RepP C'.S C'.w v x := h.mono hle.w

theorem RepA.le {C C' : Cx} (hle : C.le C') {v : Value} {x : AV} (h : RepA C v x) : RepA C' v x := by
  induction h with
  | p h => exact .p (h.le hle)
  | own h hu hv h1 =>
    obtain ⟨ver', val', h', hle', hval⟩ := hle.rw_ _ _ _ h
    exact .own h' (Nat.le_trans hu hle') (fun e => (hv (Nat.le_antisymm hu (by omega))).trans (hval (by omega)).symm) h1
  | agg hl h1 _ ih => exact .agg hl h1 ih
  | ptr h => exact .ptr (hle.bl _ _ h)
  | bsl h hn hc hm hB hA => exact .bsl (hle.bl _ _ h) hn hc hm hB hA
  | elt b off g hcell hrep =>
    refine .elt b off g (fun j x hx => ?_) (fun j x hx => (hrep j x hx).le hle)
    obtain ⟨h1, h2, h3⟩ := hcell j x hx
    obtain ⟨k1, k2⟩ := hle.w _ _ _ h2 h1
    exact ⟨k2, k1, h3⟩
  | fn hl _ ih => exact .fn hl ih
  | tup hl _ ih => exact .tup hl ih
  | grd _ hf ih => exact .grd ih hf
  | dead => exact .dead

theorem RepP.one {S w v x} (h : RepP S w v x) : (∀ cs, x ≠ .agg cs) → (∀ cs, x ≠ .tup cs) → v.oneCell' = true := by
  intro h1 h2
  cases h with
  | sc h => exact h
  | agg => exact absurd rfl (h1 _)
  | tup => exact absurd rfl (h2 _)
  | sl => rfl

end Go.Proofs.Av
