/- Structs and arrays held one against the other. -/
import Derived.Test.YtedaankgfolbjaaAv6
import Derived.DeepKeys
set_option linter.unusedVariables false
set_option linter.unusedSimpArgs false
namespace Go.Proofs.Av
open Go.RowKit

def likeOne : Value → Value → Bool
  | .int k _, .int k' _ => decide (k = k')
  | .bool _, .bool _ => true
  | .string _, .string _ => true
  | _, _ => false
def likeV : List Value → List Value → Bool
  | [], [] => true
  | z :: zs, v :: vs => likeOne z v && likeV zs vs
  | _, _ => false
def eqOne : Value → Value → Bool
  | .int _ a, .int _ b => a == b
  | .bool a, .bool b => a == b
  | .string a, .string b => a == b
  | _, _ => false
def eqV : List Value → List Value → Bool
  | [], [] => true
  | a :: x, b :: y => eqOne a b && eqV x y
  | _, _ => false

theorem likeV_len : ∀ {z v : List Value}, likeV z v = true → v.length = z.length
  | [], [], _ => rfl
  | [], _ :: _, h => by simp [likeV] at h
  | _ :: _, [], h => by simp [likeV] at h
  | z :: zs, v :: vs, h => by simp [likeV] at h; simp [likeV_len h.2]

theorem likeV_append : ∀ {z z' v v' : List Value}, v.length = z.length → (likeV (z ++ z') (v ++ v') = true ↔ likeV z v = true ∧ likeV z' v' = true)
  | [], z', [], v', _ => by simp [likeV]
  | [], _, _ :: _, _, h => by simp at h
  | _ :: _, _, [], _, h => by simp at h
  | z :: zs, z', v :: vs, v', h => by
    simp only [List.cons_append, likeV, Bool.and_eq_true]
    rw [likeV_append (by simpa using h), and_assoc]

theorem eqV_append : ∀ {a b c d : List Value}, a.length = b.length → eqV (a ++ c) (b ++ d) = (eqV a b && eqV c d)
  | [], [], _, _, _ => by simp [eqV]
  | [], _ :: _, _, _, h => by simp at h
  | _ :: _, [], _, _, h => by simp at h
  | a :: as, b :: bs, c, d, h => by
    simp only [List.cons_append, eqV]
    rw [eqV_append (by simpa using h), Bool.and_assoc]

def eqPf (q : TypeId → Option (List Value)) (sz : TypeId → Nat) : Nat → List Field → Option (List Value)
  | _, [] => some []
  | off, f :: fs =>
    match q f.type with
    | some z => if f.name ≠ "_" ∧ f.offset = off ∧ sz f.type = z.length then (eqPf q sz (off + z.length) fs).map (z ++ ·) else none
    | none => none

/-- A type's cells, if it is of numbers, texts and truths alone, to the bottom. -/
def eqP (P : Program) : Nat → TypeId → Option (List Value)
  | 0, _ => none
  | m + 1, t =>
    match P.underlying t with
    | some (.int k) => some [.int k 0]
    | some .bool => some [.bool false]
    | some .string => some [.string ⟨#[]⟩]
    | some (.struct fs) => if P.stoodInHeld t = true then none else eqPf (eqP P m) P.cellsOf 0 fs.toList
    | some (.array n e) =>
      match eqP P m e with
      | some z => if P.cellsOf e = z.length then some (List.replicate n z).flatten else none
      | none => none
    | _ => none

section
variable {P : Program}

def StepOk (P : Program) (dd : Nat) (e : TypeId) (z : List Value) : Prop :=
  ∀ (w : World) (xs ys : Array Value) (off : Nat) (vs us : List Value), (xs.toList.drop off).take z.length = vs → (ys.toList.drop off).take z.length = us → likeV z vs = true → likeV z us = true →
    ∃ a b, (part e xs off).run P w = .ok a w ∧ (part e ys off).run P w = .ok b w ∧ (Op.equalIn dd e a b).run P w = .ok (eqV vs us) w
def TopOk (P : Program) (dd : Nat) (t : TypeId) (z : List Value) : Prop :=
  ∀ (w : World) (vs us : List Value), likeV z vs = true → likeV z us = true → (Op.equalIn dd t (.agg vs.toArray) (.agg us.toArray)).run P w = .ok (eqV vs us) w

theorem step_of_top {dd : Nat} {t : TypeId} {z : List Value} {i : TypeInfo} {k : TypeDesc} (hu : P.underlying t = some k) (hk : (∃ n e, k = .array n e) ∨ ∃ fs, k = .struct fs) (hi : P.info? t = some i) (hz : P.cellsOf t = z.length) (h : TopOk P dd t z) : StepOk P dd t z := by
  intro w xs ys off vs us hv hu' h1 h2
  have hx : ∀ (xs : Array Value) (vs : List Value), (xs.toList.drop off).take z.length = vs → (part t xs off).run P w = .ok (.agg vs.toArray) w := by
    intro xs vs hv
    have : xs.extract off (off + z.length) = vs.toArray := by
      apply Array.toList_inj.1
      rw [← hv, Array.toList_extract]
      simp [List.extract]
    have hs := run_sizeOf w hi
    rcases hk with ⟨n, e, rfl⟩ | ⟨fs, rfl⟩ <;> simp [part, isAgg, run_underlying hu, hs, hz, this]
  exact ⟨_, _, hx _ _ hv, hx _ _ hu', h w vs us h1 h2⟩

theorem step_plain {dd : Nat} {t : TypeId} {z : Value} {k : TypeDesc} (hu : P.underlying t = some k) (hk : (∃ q, k = .int q ∧ z = .int q 0) ∨ (k = .bool ∧ z = .bool false) ∨ (k = .string ∧ z = .string ⟨#[]⟩)) : StepOk P (dd + 1) t [z] := by
  intro w xs ys off vs us hv hu' h1 h2
  have get : ∀ (xs : Array Value) (vs : List Value), (xs.toList.drop off).take [z].length = vs → likeV [z] vs = true → ∃ v, vs = [v] ∧ likeOne z v = true ∧ (part t xs off).run P w = .ok v w := by
    intro xs vs hv hl
    match vs, hl with
    | [v], hl =>
      have hx := getElem?_of_chunk hv
      refine ⟨v, rfl, by simpa [likeV] using hl, run_part_plain w ?_ hx⟩
      rcases hk with ⟨q, rfl, _⟩ | ⟨rfl, _⟩ | ⟨rfl, _⟩ <;> simp [Program.plainKey, hu]
    | [], hl => simp [likeV] at hl
    | _ :: _ :: _, hl => simp [likeV] at hl
  obtain ⟨v, rfl, l1, p1⟩ := get xs vs hv h1
  obtain ⟨u, rfl, l2, p2⟩ := get ys us hu' h2
  refine ⟨v, u, p1, p2, ?_⟩
  rcases hk with ⟨q, rfl, rfl⟩ | ⟨rfl, rfl⟩ | ⟨rfl, rfl⟩
  · cases v <;> simp [likeOne] at l1
    cases u <;> simp [likeOne] at l2
    subst l1; subst l2
    simp [run_equalIn_int w dd t _ _ _ _ hu, eqV, eqOne]
  · cases v <;> simp [likeOne] at l1
    cases u <;> simp [likeOne] at l2
    simp [run_equalIn_bool' w dd t _ _ hu, eqV, eqOne]
  · cases v <;> simp [likeOne] at l1
    cases u <;> simp [likeOne] at l2
    simp [run_equalIn_string w dd t _ _ hu, eqV, eqOne, beq_toListBytes]

theorem eq_fields {dd : Nat} {q : TypeId → Option (List Value)} {sz : TypeId → Nat} (hq : ∀ e z, q e = some z → sz e = z.length → StepOk P dd e z) : ∀ (fs : List Field) (off : Nat) (z : List Value), eqPf q sz off fs = some z → ∀ (w : World) (xs ys : Array Value) (vs us : List Value),
    xs.toList.drop off = vs → ys.toList.drop off = us → likeV z vs = true → likeV z us = true → (Op.eqFields dd xs ys fs).run P w = .ok (eqV vs us) w
  | [], off, z, h, w, xs, ys, vs, us, hv, hu, h1, h2 => by
    simp [eqPf] at h
    subst h
    have e1 : vs = [] := List.eq_nil_of_length_eq_zero (likeV_len h1)
    have e2 : us = [] := List.eq_nil_of_length_eq_zero (likeV_len h2)
    rw [e1, e2]
    simp [Op.eqFields, eqV]
  | f :: fs, off, z, h, w, xs, ys, vs, us, hv, hu, h1, h2 => by
    unfold eqPf at h
    split at h
    · rename_i z0 hz0
      split at h
      · rename_i hc
        obtain ⟨hn, ho, hs⟩ := hc
        obtain ⟨z1, hz1, rfl⟩ := Option.map_eq_some_iff.1 h
        have lv := likeV_len h1
        have lu := likeV_len h2
        simp only [List.length_append] at lv lu
        rw [← List.take_append_drop z0.length vs, likeV_append (by simp; omega)] at h1
        rw [← List.take_append_drop z0.length us, likeV_append (by simp; omega)] at h2
        obtain ⟨a, b, p1, p2, p3⟩ := hq f.type z0 hz0 hs w xs ys off (vs.take z0.length) (us.take z0.length) (by rw [hv]) (by rw [hu]) h1.1 h2.1
        have ih := eq_fields hq fs (off + z0.length) z1 hz1 w xs ys (vs.drop z0.length) (us.drop z0.length) (by rw [← hv, List.drop_drop]) (by rw [← hu, List.drop_drop]) h1.2 h2.2
        have he : eqV vs us = (eqV (vs.take z0.length) (us.take z0.length) && eqV (vs.drop z0.length) (us.drop z0.length)) := by
          rw [← eqV_append (by simp; omega), List.take_append_drop, List.take_append_drop]
        rw [he]
        simp only [Op.eqFields, hn, ne_eq, not_false_eq_true, if_true, Sem.run_bind, ho, p1, p2, p3, Result.andThen_ok]
        cases eqV (vs.take z0.length) (us.take z0.length)
        · simp
        · simpa using ih
      · cases h
    · cases h

theorem eq_items {dd : Nat} {e : TypeId} {z : List Value} (hs : StepOk P dd e z) : ∀ (n k : Nat) (w : World) (xs ys : Array Value) (vs us : List Value),
    xs.toList.drop (k * z.length) = vs → ys.toList.drop (k * z.length) = us → likeV (List.replicate n z).flatten vs = true → likeV (List.replicate n z).flatten us = true →
      (Op.eqItems dd e z.length xs ys (List.range' k n)).run P w = .ok (eqV vs us) w
  | 0, k, w, xs, ys, vs, us, hv, hu, h1, h2 => by
    have e1 : vs = [] := List.eq_nil_of_length_eq_zero (likeV_len h1)
    have e2 : us = [] := List.eq_nil_of_length_eq_zero (likeV_len h2)
    rw [e1, e2]
    simp [Op.eqItems, eqV]
  | n + 1, k, w, xs, ys, vs, us, hv, hu, h1, h2 => by
    have lv := likeV_len h1
    have lu := likeV_len h2
    simp only [List.replicate_succ, List.flatten_cons] at h1 h2 lv lu
    simp only [List.length_append] at lv lu
    rw [← List.take_append_drop z.length vs, likeV_append (by simp; omega)] at h1
    rw [← List.take_append_drop z.length us, likeV_append (by simp; omega)] at h2
    obtain ⟨a, b, p1, p2, p3⟩ := hs w xs ys (k * z.length) (vs.take z.length) (us.take z.length) (by rw [hv]) (by rw [hu]) h1.1 h2.1
    have ih := eq_items hs n (k + 1) w xs ys (vs.drop z.length) (us.drop z.length) (by rw [← hv, List.drop_drop, Nat.add_mul, Nat.one_mul]) (by rw [← hu, List.drop_drop, Nat.add_mul, Nat.one_mul]) h1.2 h2.2
    have he : eqV vs us = (eqV (vs.take z.length) (us.take z.length) && eqV (vs.drop z.length) (us.drop z.length)) := by
      rw [← eqV_append (by simp; omega), List.take_append_drop, List.take_append_drop]
    rw [he, List.range'_succ]
    simp only [Op.eqItems, Sem.run_bind, p1, p2, p3, Result.andThen_ok]
    cases eqV (vs.take z.length) (us.take z.length)
    · simp
    · simpa using ih

theorem eqP_ok (d : Nat) : ∀ (m : Nat) (t : TypeId) (z : List Value), eqP P m t = some z →
    (P.cellsOf t = z.length → StepOk P (d + m) t z) ∧ (((∃ n e, P.underlying t = some (.array n e)) ∨ ∃ fs, P.underlying t = some (.struct fs)) → TopOk P (d + m) t z)
  | 0, t, z, h => by simp [eqP] at h
  | m + 1, t, z, h => by
    unfold eqP at h
    split at h
    · rename_i k hu
      cases h
      exact ⟨fun _ => step_plain hu (.inl ⟨k, rfl, rfl⟩), fun hk => by rcases hk with ⟨n, e, hk⟩ | ⟨fs, hk⟩ <;> rw [hu] at hk <;> cases hk⟩
    · rename_i hu
      cases h
      exact ⟨fun _ => step_plain hu (.inr (.inl ⟨rfl, rfl⟩)), fun hk => by rcases hk with ⟨n, e, hk⟩ | ⟨fs, hk⟩ <;> rw [hu] at hk <;> cases hk⟩
    · rename_i hu
      cases h
      exact ⟨fun _ => step_plain hu (.inr (.inr ⟨rfl, rfl⟩)), fun hk => by rcases hk with ⟨n, e, hk⟩ | ⟨fs, hk⟩ <;> rw [hu] at hk <;> cases hk⟩
    · rename_i fs hu
      split at h
      · cases h
      · rename_i hst
        have htop : TopOk P (d + (m + 1)) t z := by
          intro w vs us h1 h2
          have hfs : P.fieldsOf t = fs := by simp [Program.fieldsOf, hu]
          rw [show d + (m + 1) = (d + m) + 1 from rfl, run_equalIn_struct w (d + m) t _ _ (by rw [hfs]; exact hu) (by simpa using hst), hfs]
          exact eq_fields (fun e z hz hs => (eqP_ok d m e z hz).1 hs) fs.toList 0 z h w _ _ vs us (by simp) (by simp) h1 h2
        obtain ⟨i, hi⟩ := info_of_underlying hu
        exact ⟨fun hs => step_of_top hu (.inr ⟨fs, rfl⟩) hi hs htop, fun _ => htop⟩
    · rename_i n e hu
      split at h
      · rename_i z0 hz0
        split at h
        · rename_i hs
          cases h
          have htop : TopOk P (d + (m + 1)) t (List.replicate n z0).flatten := by
            intro w vs us h1 h2
            by_cases h0 : z0.length = 0
            · have hz0' : z0 = [] := List.eq_nil_of_length_eq_zero h0
              subst hz0'
              cases m with
              | zero => simp [eqP] at hz0
              | succ m =>
                cases hi : P.info? e with
                | none =>
                  unfold eqP at hz0
                  simp [Program.underlying, hi] at hz0
                | some i =>
                  rw [show d + (m + 1 + 1) = (d + (m + 1)) + 1 from rfl, run_equalIn_array w (d + (m + 1)) _ _ hu hi, hs, List.range_eq_range']
                  exact eq_items ((eqP_ok d (m + 1) e [] hz0).1 hs) n 0 w _ _ vs us (by simp) (by simp) h1 h2
            · cases hi : P.info? e with
              | none => simp [Program.cellsOf, hi] at hs; omega
              | some i =>
                rw [show d + (m + 1) = (d + m) + 1 from rfl, run_equalIn_array w (d + m) _ _ hu hi, hs, List.range_eq_range']
                exact eq_items ((eqP_ok d m e z0 hz0).1 hs) n 0 w _ _ vs us (by simp) (by simp) h1 h2
          obtain ⟨i, hi⟩ := info_of_underlying hu
          exact ⟨fun hs => step_of_top hu (.inl ⟨n, e, rfl⟩) hi hs htop, fun _ => htop⟩
        · cases h
      · cases h
    · cases h

theorem like_of {S : Stb} {w : World} : ∀ {z : List Value} {xs : List PV} {vs : List Value}, likeAll z xs = true → Reps (RepP S w) vs xs → likeV z vs = true
  | [], [], vs, _, hr => by
    have : vs = [] := List.eq_nil_of_length_eq_zero hr.1
    subst this; rfl
  | [], _ :: _, _, h, _ => by simp [likeAll] at h
  | _ :: _, [], _, h, _ => by simp [likeAll] at h
  | z :: zs, x :: xs, [], _, hr => by have := hr.1; simp at this
  | z :: zs, x :: xs, v :: vs, h, hr => by
    simp only [likeAll, Bool.and_eq_true] at h
    simp only [likeV, Bool.and_eq_true]
    refine ⟨?_, like_of h.2 ⟨by have := hr.1; simpa using this, fun i a b ha hb => hr.2 (i + 1) a b (by simpa using ha) (by simpa using hb)⟩⟩
    have h0 := hr.2 0 v x rfl rfl
    have h1 := h.1
    unfold sameAs at h1
    split at h1
    · cases h0; simpa [likeOne] using h1
    · cases h0; rfl
    · cases h0; rfl
    · cases h1

theorem eqV_of {S : Stb} {w : World} : ∀ {xs ys : List PV} {vs us : List Value} {b : Bool}, cellsEq xs ys = some b → Reps (RepP S w) vs xs → Reps (RepP S w) us ys → eqV vs us = b
  | [], [], vs, us, b, h, h1, h2 => by
    have e1 : vs = [] := List.eq_nil_of_length_eq_zero h1.1
    have e2 : us = [] := List.eq_nil_of_length_eq_zero h2.1
    subst e1; subst e2
    simpa [cellsEq, eqV] using h
  | x :: xs, [], _, _, _, h, _, _ => by cases x <;> simp [cellsEq] at h
  | [], y :: ys, _, _, _, h, _, _ => by simp [cellsEq] at h
  | x :: xs, y :: ys, [], _, _, _, h1, _ => by have := h1.1; simp at this
  | x :: xs, y :: ys, _ :: _, [], _, _, _, h2 => by have := h2.1; simp at this
  | x :: xs, y :: ys, v :: vs, u :: us, b, h, h1, h2 => by
    unfold cellsEq at h
    split at h
    · rename_i e1 e2; cases e1
    · rename_i a x' c y' e1 e2
      cases e1; cases e2
      split at h
      · rename_i p q hp hq
        cases h
        have ih := eqV_of (vs := vs) (us := us) hq ⟨by have := h1.1; simpa using this, fun i a b ha hb => h1.2 (i + 1) a b (by simpa using ha) (by simpa using hb)⟩ ⟨by have := h2.1; simpa using this, fun i a b ha hb => h2.2 (i + 1) a b (by simpa using ha) (by simpa using hb)⟩
        have k1 := (h1.2 0 v _ rfl rfl).scv
        have k2 := (h2.2 0 u _ rfl rfl).scv
        subst k1; subst k2
        simp only [eqV, ih]
        congr 1
        unfold scEq at hp
        split at hp
        · split at hp
          · cases hp; rfl
          · cases hp
        · cases hp; rfl
        · cases hp; rfl
        · cases hp
      · cases h
    · cases h

/-- **Parts held one against the other.** -/
theorem eqOk {m : Nat} {t : TypeId} {z : List Value} (h : eqP P m t = some z) (hm : m ≤ 10000) (ha : (match P.underlying t with | some (.array _ _) | some (.struct _) => true | _ => false) = true) (hg : P.eqGuardType P.depth t = false) : EqOk P t z := by
  have htop : TopOk P 10000 t z := by
    have := (eqP_ok (10000 - m) m t z h).2 (by
      cases hu : P.underlying t with
      | none => rw [hu] at ha; cases ha
      | some k => cases k <;> rw [hu] at ha <;> simp at ha <;> simp)
    rwa [show 10000 - m + m = 10000 by omega] at this
  refine ⟨fun xs ys vs us S w1 b w l1 l2 hc h1 h2 => ?_, fun xs ys vs us S w1 b w l1 l2 hc h1 h2 => ?_, fun op x y vs us w => run_eqGuard_agg w op t x y vs us hg⟩
  · rw [run_eql_struct, htop w vs us (like_of l1 h1) (like_of l2 h2), eqV_of hc h1 h2]
    rfl
  · rw [run_neq_struct, htop w vs us (like_of l1 h1) (like_of l2 h2), eqV_of hc h1 h2]
    rfl

end
end Go.Proofs.Av
