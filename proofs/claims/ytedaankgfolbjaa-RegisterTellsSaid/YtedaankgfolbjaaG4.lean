/- Contexts: which updates are there; what is clean. Plain laws. No program here. -/
import Derived.Test.YtedaankgfolbjaaG2
import Derived.Test.YtedaankgfolbjaaD1
set_option linter.unusedVariables false
set_option linter.unusedSimpArgs false
namespace Go.Proofs.Av

/-- Sixteen numbers. -/
@[ext] structure Vec where
  l : List Int
  h : l.length = 16
def Vec.get (v : Vec) (i : Int) : Int := v.l.getD i.toNat 0
def Vec.set (v : Vec) (i : Int) (n : Int) : Vec := ⟨v.l.set i.toNat n, by simp [v.h]⟩
def Vec.map (v : Vec) (f : Int → Int) : Vec := ⟨v.l.map f, by simp [v.h]⟩
def Vec.zip (v w : Vec) (f : Int → Int → Int) : Vec := ⟨List.zipWith f v.l w.l, by simp [v.h, w.h]⟩
def vec0 : Vec := ⟨List.replicate 16 0, by simp⟩
instance : DecidableEq Vec := fun a b => decidable_of_iff (a.l = b.l) (by rw [Vec.ext_iff])

theorem Vec.get_eq (v : Vec) {i : Int} (h0 : 0 ≤ i) (h1 : i < 16) : v.get i = v.l[i.toNat]'(by rw [v.h]; omega) := by
  unfold Vec.get
  rw [List.getD, List.getElem?_eq_getElem (by rw [v.h]; omega)]
  rfl
theorem Vec.ext_get {a b : Vec} (h : ∀ i, 0 ≤ i → i < 16 → a.get i = b.get i) : a = b := by
  apply Vec.ext
  refine List.ext_getElem (by rw [a.h, b.h]) fun i h1 h2 => ?_
  have hi : i < 16 := by rw [a.h] at h1; exact h1
  have := h i (by omega) (by omega)
  rw [a.get_eq (by omega) (by omega), b.get_eq (by omega) (by omega)] at this
  simpa using this
theorem Vec.get_set (v : Vec) {i j n : Int} (hi : 0 ≤ i) (hi' : i < 16) (hj : 0 ≤ j) (hj' : j < 16) : (v.set i n).get j = if i = j then n else v.get j := by
  rw [Vec.get_eq _ hj hj', Vec.get_eq _ hj hj']
  simp only [Vec.set, List.getElem_set]
  by_cases e : i = j
  · subst e; simp
  · have : ¬ i.toNat = j.toNat := by omega
    simp [e, this]
theorem Vec.get_map (v : Vec) (f : Int → Int) {i : Int} (h0 : 0 ≤ i) (h1 : i < 16) : (v.map f).get i = f (v.get i) := by
  rw [Vec.get_eq _ h0 h1, Vec.get_eq _ h0 h1]; simp [Vec.map]
theorem Vec.get_zip (v w : Vec) (f : Int → Int → Int) {i : Int} (h0 : 0 ≤ i) (h1 : i < 16) : (v.zip w f).get i = f (v.get i) (w.get i) := by
  rw [Vec.get_eq _ h0 h1, Vec.get_eq _ h0 h1, Vec.get_eq _ h0 h1]; simp [Vec.zip]
theorem Vec.get_zero {i : Int} (h0 : 0 ≤ i) (h1 : i < 16) : vec0.get i = 0 := by
  unfold Vec.get vec0
  rw [List.getD, List.getElem?_replicate]
  split <;> rfl

@[ext] structure Ctx where
  v : Vec
  cloud : List Dot
deriving DecidableEq

/-- May a name of an update be? -/
def dotOk (d : Dot) : Bool := decide (0 ≤ d.r) && decide (d.r < 16) && decide (1 ≤ d.n) && decide (d.n ≤ 1099511627776)
theorem dotOk_iff {d : Dot} : dotOk d = true ↔ 0 ≤ d.r ∧ d.r < 16 ∧ 1 ≤ d.n ∧ d.n ≤ 1099511627776 := by
  simp [dotOk]; omega
def vecHas (v : Vec) (d : Dot) : Bool := dotOk d && decide (d.n ≤ v.get d.r)
def ctxHas (c : Ctx) (d : Dot) : Bool := dotOk d && (decide (d.n ≤ c.v.get d.r) || decide (d ∈ c.cloud))
theorem ctxHas_iff {c : Ctx} {d : Dot} : ctxHas c d = true ↔ dotOk d = true ∧ (d.n ≤ c.v.get d.r ∨ d ∈ c.cloud) := by
  simp [ctxHas]

def dotLt (a b : Dot) : Bool := decide (a.r < b.r) || (decide (a.r = b.r) && decide (a.n < b.n))
theorem dotLt_iff {a b : Dot} : dotLt a b = true ↔ a.r < b.r ∨ a.r = b.r ∧ a.n < b.n := by simp [dotLt]
theorem stoDot : Sto dotLt := by
  refine ⟨fun a => ?_, fun a b d h1 h2 => ?_, fun a b hne => ?_⟩
  · simp [dotLt]
  · rw [dotLt_iff] at *; omega
  · rw [dotLt_iff, dotLt_iff]
    rcases Int.lt_trichotomy a.r b.r with h | h | h
    · omega
    · rcases Int.lt_trichotomy a.n b.n with k | k | k
      · omega
      · exact absurd (by cases a; cases b; simp_all) hne
      · omega
    · omega
def dotSort (l : List Dot) : List Dot := onceSort dotLt l

def clamp (n : Int) : Int := max 0 (min n 1099511627776)

/-- What is clean: the vector as great as can be, and what is beyond. -/
structure IsClean (x : Ctx) (S : Dot → Prop) : Prop where
  lo : ∀ i, 0 ≤ i → i < 16 → 0 ≤ x.v.get i ∧ x.v.get i ≤ 1099511627776
  pre : ∀ i n, 0 ≤ i → i < 16 → 1 ≤ n → n ≤ x.v.get i → S ⟨i, n⟩
  top : ∀ i, 0 ≤ i → i < 16 → ¬ S ⟨i, x.v.get i + 1⟩
  ris : Ris dotLt x.cloud
  mem : ∀ d, d ∈ x.cloud ↔ S d ∧ x.v.get d.r < d.n

theorem IsClean.uniq {x y : Ctx} {S : Dot → Prop} (h : IsClean x S) (k : IsClean y S) : x = y := by
  have hv : x.v = y.v := by
    refine Vec.ext_get fun i h0 h1 => ?_
    rcases Int.lt_trichotomy (x.v.get i) (y.v.get i) with hl | hl | hl
    · have := h.lo i h0 h1
      exact absurd (k.pre i (x.v.get i + 1) h0 h1 (by omega) (by omega)) (h.top i h0 h1)
    · exact hl
    · have := k.lo i h0 h1
      exact absurd (h.pre i (y.v.get i + 1) h0 h1 (by omega) (by omega)) (k.top i h0 h1)
  refine Ctx.ext hv (stoDot.uniq h.ris k.ris fun d => ?_)
  rw [h.mem, k.mem, hv]

theorem IsClean.has {x : Ctx} {S : Dot → Prop} (hS : ∀ d, S d → dotOk d = true) (h : IsClean x S) (d : Dot) : ctxHas x d = true ↔ S d := by
  rw [ctxHas_iff]
  constructor
  · rintro ⟨h1, h2 | h2⟩
    · obtain ⟨k1, k2, k3, k4⟩ := dotOk_iff.1 h1
      exact h.pre d.r d.n k1 k2 k3 h2
    · exact ((h.mem d).1 h2).1
  · intro hd
    refine ⟨hS d hd, ?_⟩
    rcases Int.lt_or_le (x.v.get d.r) d.n with h2 | h2
    · exact .inr ((h.mem d).2 ⟨hd, h2⟩)
    · exact .inl h2

/-- causal.Clean, by one dot behind the other. -/
def cleanStep (o : Ctx) (d : Dot) : Ctx :=
  if dotOk d = false ∨ vecHas o.v d = true then o
  else if d.n = o.v.get d.r + 1 then ⟨o.v.set d.r (o.v.get d.r + 1), o.cloud⟩
  else ⟨o.v, o.cloud ++ [d]⟩
def clean (c : Ctx) : Ctx := (dotSort c.cloud).foldl cleanStep ⟨c.v.map clamp, []⟩

structure CleanInv (c : Ctx) (p : List Dot) (o : Ctx) : Prop where
  lo : ∀ i, 0 ≤ i → i < 16 → clamp (c.v.get i) ≤ o.v.get i ∧ 0 ≤ o.v.get i ∧ o.v.get i ≤ 1099511627776
  pre : ∀ i n, 0 ≤ i → i < 16 → 1 ≤ n → n ≤ o.v.get i → ctxHas c ⟨i, n⟩ = true
  ris : Ris dotLt o.cloud
  mem : ∀ d, d ∈ o.cloud ↔ d ∈ p ∧ dotOk d = true ∧ o.v.get d.r < d.n
  gap : ∀ d ∈ p, dotOk d = true → o.v.get d.r < d.n → o.v.get d.r + 1 < d.n

theorem CleanInv.step {c : Ctx} {p : List Dot} {o : Ctx} {d : Dot} (h : CleanInv c p o) (hp : ∀ e ∈ p, dotLt e d = true) (hd : d ∈ c.cloud) : CleanInv c (p ++ [d]) (cleanStep o d) := by
  have hdp : d ∉ p := fun e => by have := hp d e; rw [stoDot.irr] at this; cases this
  unfold cleanStep
  split
  · rename_i hc
    have hno : ¬ (dotOk d = true ∧ o.v.get d.r < d.n) := by
      rintro ⟨k1, k2⟩
      rcases hc with hc | hc
      · rw [hc] at k1; cases k1
      · simp [vecHas] at hc; omega
    refine ⟨h.lo, h.pre, h.ris, fun e => ?_, fun e he => ?_⟩
    · rw [h.mem, List.mem_append, List.mem_singleton]
      constructor
      · rintro ⟨k1, k2⟩; exact ⟨.inl k1, k2⟩
      · rintro ⟨k1 | rfl, k2⟩
        · exact ⟨k1, k2⟩
        · exact absurd k2 hno
    · rcases List.mem_append.1 he with he | he
      · exact h.gap e he
      · rw [List.mem_singleton] at he
        subst he
        exact fun k1 k2 => absurd ⟨k1, k2⟩ hno
  · rename_i hc
    have hok : dotOk d = true := by
      cases hx : dotOk d with
      | true => rfl
      | false => exact absurd (.inl hx) hc
    obtain ⟨r0, r1, n0, n1⟩ := dotOk_iff.1 hok
    have hgt : o.v.get d.r < d.n := by
      rcases Int.lt_or_le (o.v.get d.r) d.n with k | k
      · exact k
      · exact absurd (.inr (by simp [vecHas, hok, k])) hc
    split
    · rename_i hn
      have hget : ∀ j, 0 ≤ j → j < 16 → (o.v.set d.r (o.v.get d.r + 1)).get j = if d.r = j then d.n else o.v.get j := fun j j0 j1 => by
        rw [Vec.get_set _ r0 r1 j0 j1, ← hn]
      refine ⟨fun i i0 i1 => ?_, fun i n i0 i1 k1 k2 => ?_, h.ris, fun e => ?_, fun e he k1 k2 => ?_⟩
      · simp only
        rw [hget i i0 i1]
        have := h.lo i i0 i1
        split
        · rename_i e; subst e; omega
        · exact this
      · simp only at k2
        rw [hget i i0 i1] at k2
        split at k2
        · rename_i e; subst e
          rcases Int.lt_or_le (o.v.get d.r) n with k3 | k3
          · have : n = d.n := by omega
            subst this
            exact ctxHas_iff.2 ⟨hok, .inr hd⟩
          · exact h.pre _ n i0 i1 k1 k3
        · exact h.pre i n i0 i1 k1 k2
      · simp only
        rw [h.mem, List.mem_append, List.mem_singleton]
        constructor
        · rintro ⟨k1, k2, k3⟩
          obtain ⟨e0, e1, _, _⟩ := dotOk_iff.1 k2
          refine ⟨.inl k1, k2, ?_⟩
          rw [hget _ e0 e1]
          split
          · rename_i er
            have := dotLt_iff.1 (hp e k1)
            rw [← er] at k3
            omega
          · exact k3
        · rintro ⟨k1, k2, k3⟩
          obtain ⟨e0, e1, _, _⟩ := dotOk_iff.1 k2
          rw [hget _ e0 e1] at k3
          rcases k1 with k1 | rfl
          · refine ⟨k1, k2, ?_⟩
            split at k3
            · rename_i er
              have := dotLt_iff.1 (hp e k1)
              omega
            · exact k3
          · simp at k3
      · obtain ⟨e0, e1, _, _⟩ := dotOk_iff.1 k1
        simp only at k2 ⊢
        rw [hget _ e0 e1] at k2 ⊢
        split at k2
        · rename_i er
          rcases List.mem_append.1 he with he | he
          · have := dotLt_iff.1 (hp e he)
            omega
          · rw [List.mem_singleton] at he
            subst he
            omega
        · rename_i er
          rw [if_neg er]
          rcases List.mem_append.1 he with he | he
          · exact h.gap e he k1 k2
          · rw [List.mem_singleton] at he
            subst he
            exact absurd rfl er
    · rename_i hn
      refine ⟨h.lo, h.pre, ?_, fun e => ?_, fun e he k1 k2 => ?_⟩
      · exact List.pairwise_append.2 ⟨h.ris, by simp, fun a ha b hb => by
          rw [List.mem_singleton] at hb
          subst hb
          exact hp a ((h.mem a).1 ha).1⟩
      · simp only
        rw [List.mem_append, List.mem_append, h.mem, List.mem_singleton]
        constructor
        · rintro (⟨k1, k2⟩ | rfl)
          · exact ⟨.inl k1, k2⟩
          · exact ⟨.inr rfl, hok, hgt⟩
        · rintro ⟨k1 | k1, k2⟩
          · exact .inl ⟨k1, k2⟩
          · exact .inr k1
      · rcases List.mem_append.1 he with he | he
        · exact h.gap e he k1 k2
        · rw [List.mem_singleton] at he
          subst he
          simp only at k2 ⊢
          omega

theorem clean_fold {c : Ctx} : ∀ (q p : List Dot) (o : Ctx), Ris dotLt (p ++ q) → (∀ d ∈ q, d ∈ c.cloud) → CleanInv c p o → CleanInv c (p ++ q) (q.foldl cleanStep o)
  | [], p, o, _, _, h => by simpa using h
  | d :: q, p, o, hr, hc, h => by
    have hp : ∀ e ∈ p, dotLt e d = true := fun e he => (List.pairwise_append.1 hr).2.2 e he d List.mem_cons_self
    have := clean_fold q (p ++ [d]) (cleanStep o d) (by simpa using hr) (fun e he => hc e (List.mem_cons_of_mem _ he)) (h.step hp (hc d List.mem_cons_self))
    simpa using this

theorem clean_isClean (c : Ctx) : IsClean (clean c) (fun d => ctxHas c d = true) := by
  have h0 : CleanInv c [] ⟨c.v.map clamp, []⟩ := by
    refine ⟨fun i i0 i1 => ?_, fun i n i0 i1 k1 k2 => ?_, .nil, by simp, by simp⟩
    · simp only
      rw [Vec.get_map _ _ i0 i1]
      unfold clamp
      omega
    · simp only at k2
      rw [Vec.get_map _ _ i0 i1] at k2
      unfold clamp at k2
      exact ctxHas_iff.2 ⟨dotOk_iff.2 ⟨i0, i1, k1, by simp only; omega⟩, .inl (by simp only; omega)⟩
  have h := clean_fold (dotSort c.cloud) [] _ (stoDot.onceSort_ris c.cloud) (fun d hd => stoDot.mem_onceSort.1 hd) h0
  simp only [List.nil_append] at h
  change CleanInv c (dotSort c.cloud) (clean c) at h
  have hmem : ∀ d, d ∈ dotSort c.cloud ↔ d ∈ c.cloud := fun d => stoDot.mem_onceSort
  refine ⟨fun i i0 i1 => (h.lo i i0 i1).2, h.pre, fun i i0 i1 hs => ?_, h.ris, fun d => ?_⟩
  · obtain ⟨k1, k2⟩ := ctxHas_iff.1 hs
    obtain ⟨_, _, n0, n1⟩ := dotOk_iff.1 k1
    have hl := h.lo i i0 i1
    rcases k2 with k2 | k2
    · simp only at k2 n1
      unfold clamp at hl
      omega
    · have := h.gap _ ((hmem _).2 k2) k1 (by simp only; omega)
      simp only at this
      omega
  · rw [h.mem, hmem, ctxHas_iff]
    constructor
    · rintro ⟨k1, k2, k3⟩; exact ⟨⟨k2, .inr k1⟩, k3⟩
    · rintro ⟨⟨k1, k2⟩, k3⟩
      obtain ⟨i0, i1, n0, n1⟩ := dotOk_iff.1 k1
      have hl := h.lo d.r i0 i1
      rcases k2 with k2 | k2
      · unfold clamp at hl; omega
      · exact ⟨k2, k1, k3⟩

theorem has_clean (c : Ctx) (d : Dot) : ctxHas (clean c) d = true ↔ ctxHas c d = true :=
  (clean_isClean c).has (fun d hd => (ctxHas_iff.1 hd).1) d
theorem clean_eq {c x : Ctx} (h : IsClean x (fun d => ctxHas c d = true)) : x = clean c := h.uniq (clean_isClean c)
theorem clean_ext {a b : Ctx} (h : ∀ d, ctxHas a d = true ↔ ctxHas b d = true) : clean a = clean b := by
  have e : (fun d => ctxHas a d = true) = fun d => ctxHas b d = true := funext fun d => propext (h d)
  have ha := clean_isClean a
  rw [e] at ha
  exact ha.uniq (clean_isClean b)
theorem clean_clean (c : Ctx) : clean (clean c) = clean c := clean_ext (has_clean c)

def ctxAdd (c : Ctx) (l : List Dot) : Ctx := clean ⟨c.v, c.cloud ++ l⟩
def ctxJoin (a b : Ctx) : Ctx := clean ⟨(clean a).v.zip (clean b).v max, (clean a).cloud ++ (clean b).cloud⟩

theorem has_add (c : Ctx) (l : List Dot) (d : Dot) : ctxHas (ctxAdd c l) d = true ↔ ctxHas c d = true ∨ dotOk d = true ∧ d ∈ l := by
  unfold ctxAdd
  rw [has_clean, ctxHas_iff, ctxHas_iff, List.mem_append]
  constructor
  · rintro ⟨k1, k2 | k2 | k2⟩
    · exact .inl ⟨k1, .inl k2⟩
    · exact .inl ⟨k1, .inr k2⟩
    · exact .inr ⟨k1, k2⟩
  · rintro (⟨k1, k2 | k2⟩ | ⟨k1, k2⟩)
    · exact ⟨k1, .inl k2⟩
    · exact ⟨k1, .inr (.inl k2)⟩
    · exact ⟨k1, .inr (.inr k2)⟩
theorem has_join (a b : Ctx) (d : Dot) : ctxHas (ctxJoin a b) d = true ↔ ctxHas a d = true ∨ ctxHas b d = true := by
  unfold ctxJoin
  rw [has_clean, ← has_clean a, ← has_clean b, ctxHas_iff, ctxHas_iff, ctxHas_iff]
  simp only [List.mem_append]
  constructor
  · rintro ⟨k1, k2⟩
    obtain ⟨i0, i1, n0, n1⟩ := dotOk_iff.1 k1
    rw [Vec.get_zip _ _ _ i0 i1] at k2
    rcases k2 with k2 | k2 | k2
    · rcases Int.le_total ((clean a).v.get d.r) ((clean b).v.get d.r) with k3 | k3
      · exact .inr ⟨k1, .inl (by omega)⟩
      · exact .inl ⟨k1, .inl (by omega)⟩
    · exact .inl ⟨k1, .inr k2⟩
    · exact .inr ⟨k1, .inr k2⟩
  · rintro (⟨k1, k2⟩ | ⟨k1, k2⟩)
    all_goals
      refine ⟨k1, ?_⟩
      obtain ⟨i0, i1, n0, n1⟩ := dotOk_iff.1 k1
      rw [Vec.get_zip _ _ _ i0 i1]
      rcases k2 with k2 | k2
      · exact .inl (by omega)
      · simp [k2]

theorem join_comm (a b : Ctx) : ctxJoin a b = ctxJoin b a := by
  have : ctxJoin a b = clean (ctxJoin a b) := by unfold ctxJoin; rw [clean_clean]
  rw [this]
  have : ctxJoin b a = clean (ctxJoin b a) := by unfold ctxJoin; rw [clean_clean]
  rw [this]
  exact clean_ext fun d => by rw [has_join, has_join, or_comm]
theorem join_of_has {x a b : Ctx} (hx : clean x = x) (h : ∀ d, ctxHas x d = true ↔ ctxHas a d = true ∨ ctxHas b d = true) : ctxJoin a b = x := by
  have : ctxJoin a b = clean (ctxJoin a b) := by unfold ctxJoin; rw [clean_clean]
  rw [this, ← hx]
  exact clean_ext fun d => by rw [has_join, h]
theorem clean_join (a b : Ctx) : clean (ctxJoin a b) = ctxJoin a b := by unfold ctxJoin; rw [clean_clean]
theorem clean_add (c : Ctx) (l : List Dot) : clean (ctxAdd c l) = ctxAdd c l := by unfold ctxAdd; rw [clean_clean]
theorem join_assoc (a b c : Ctx) : ctxJoin (ctxJoin a b) c = ctxJoin a (ctxJoin b c) :=
  join_of_has (clean_join _ _) fun d => by rw [has_join, has_join, has_join, or_assoc]
theorem join_again (a b : Ctx) : ctxJoin (ctxJoin a b) b = ctxJoin a b :=
  join_of_has (clean_join _ _) fun d => by
    rw [has_join]
    constructor
    · rintro (h | h)
      · exact .inl (.inl h)
      · exact .inr h
    · rintro ((h | h) | h)
      · exact .inl h
      · exact .inr h
      · exact .inr h

end Go.Proofs.Av
