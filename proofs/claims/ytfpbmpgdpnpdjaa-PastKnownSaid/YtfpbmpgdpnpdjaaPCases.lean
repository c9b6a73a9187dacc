/-
  past: a push, whatever comes of it; the lengths that operations leave.
-/
import Derived.Test.YtfpbmpgdpnpdjaaPOpen
namespace Go.Proofs.Ytfpbmpgdpnpdjaa
open Go.RowKit
set_option linter.unusedSimpArgs false

def growO (os : List O) : Int := (os.map fun o => growU o.us).sum
def lensOf (m : Int) (os : List O) : List Int := (List.range (os.length + 1)).map fun i => m + growO (os.take i)
theorem growO_app (a b : List O) : growO (a ++ b) = growO a + growO b := by simp [growO]
theorem growO_one (o : O) : growO [o] = growU o.us := by simp [growO]
theorem lensOf_len (m : Int) (os : List O) : (lensOf m os).length = os.length + 1 := by simp [lensOf]
theorem lensOf_get {m : Int} {os : List O} {i : Nat} (h : i ≤ os.length) : (lensOf m os)[i]? = some (m + growO (os.take i)) := by
  unfold lensOf
  rw [List.getElem?_map, List.getElem?_range (by omega)]
  rfl
theorem lensOf_snoc (m : Int) (os : List O) (o : O) : lensOf m os ++ [m + growO os + growU o.us] = lensOf m (os ++ [o]) := by
  unfold lensOf
  rw [List.length_append, List.length_singleton, List.range_succ (n := os.length + 1), List.map_append]
  congr 1
  · refine List.map_congr_left fun i hi => ?_
    have := List.mem_range.1 hi
    rw [List.take_append_of_le_length (by omega)]
  · simp only [List.map_cons, List.map_nil]
    rw [List.take_of_length_le (by simp), growO_app, growO_one]
    congr 1; omega
theorem growO_snoc {os : List O} {i : Nat} {o : O} (h : os[i]? = some o) : growO (os.take (i + 1)) = growO (os.take i) + growU o.us := by
  rw [List.take_add_one, h, Option.toList_some, growO_app, growO_one]
theorem growO_bd : ∀ (os : List O), (∀ o ∈ os, OWf o) → growO os ≤ (os.length : Int) * 4398046511104
  | [], _ => by simp [growO]
  | o :: os, h => by
    have h1 := growO_bd os fun x hx => h x (List.mem_cons_of_mem _ hx)
    have h2 := (h o (List.mem_cons_self ..)).n
    have h3 := (growU_bd o.us).2
    have : growO (o :: os) = growU o.us + growO os := by simp [growO]
    rw [this, List.length_cons]
    push_cast
    omega
theorem long_grow : ∀ (us : List U) (m k : Int), longU us m = some k → k = m + growU us
  | [], m, k, h => by
    simp only [longU, Option.some.injEq] at h
    subst h
    simp [growU]
  | u :: us, m, k, h => by
    rw [longU] at h
    split at h
    · have := long_grow us _ k h
      have e : growU (u :: us) = growI u.k + growU us := by simp [growU]
      omega
    · cases h
theorem long_nonneg : ∀ (us : List U) (m k : Int), (∀ u ∈ us, mayU u = true) → 0 ≤ m → longU us m = some k → 0 ≤ k
  | [], m, k, _, h0, h => by
    simp only [longU, Option.some.injEq] at h
    omega
  | u :: us, m, k, hm, h0, h => by
    rw [longU] at h
    split at h
    · rename_i hf
      refine long_nonneg us _ k (fun x hx => hm x (List.mem_cons_of_mem _ hx)) ?_ h
      have h1 := hm u (List.mem_cons_self ..)
      rcases mayU_k h1 with hk | hk | hk
      · rw [hk]; simp [growI]; omega
      · rw [hk]; simp [growI]; omega
      · have hp : 0 ≤ u.p := mayU_p h1
        rw [hk] at hf ⊢
        have : u.p < m := by simpa [fitsI] using hf
        simp [growI]; omega
    · cases h
theorem longV_cases (us : List U) (m : Int) : (∃ k, longV us m = (k, 0) ∧ k = m + growU us ∧ (0 ≤ m → 0 ≤ k)) ∨ longV us m = (0, 1) ∨ longV us m = (0, 30) := by
  by_cases h : ∀ u ∈ us, mayU u = true
  · cases h2 : longU us m with
    | none => exact .inr (.inr (longV_none h h2))
    | some k => exact .inl ⟨k, longV_some h h2, long_grow us m k h2, fun h0 => long_nonneg us m k h h0 h2⟩
  · exact .inr (.inl (longV_no h))
/-- A past with what was pushed, and the lengths. -/
structure PInv (w : World) (S : Nat → Prop) (p q : Nat) (m0 : Int) (os : List O) : Prop where
  is : PastIs w S p q os (lensOf m0 os)
  wf : ∀ o ∈ os, OWf o
  nn : ∀ i, i ≤ os.length → 0 ≤ m0 + growO (os.take i)
theorem PInv.grow {w w' : World} {S : Nat → Prop} {p q : Nat} {m0 : Int} {os : List O} (h : PInv w S p q m0 os) (g : Grow w w') : PInv w' S p q m0 os := ⟨h.is.grow g, h.wf, h.nn⟩
theorem PInv.keep {w w' : World} {S T : Nat → Prop} {p q : Nat} {m0 : Int} {os : List O} (h : PInv w S p q m0 os) (g : GrowS T w w') (hT : ∀ k, S k → ¬ T k) : PInv w' S p q m0 os := ⟨h.is.keep g hT, h.wf, h.nn⟩
theorem PInv.bd {w : World} {S : Nat → Prop} {p q : Nat} {m0 : Int} {os : List O} (h : PInv w S p q m0 os) (hk : os.length ≤ 256) (hm : m0 ≤ 1152921504606846976) {i : Nat} (hi : i ≤ os.length) : m0 + growO (os.take i) ≤ 2305843009213693952 := by
  have h1 := growO_bd (os.take i) (fun o ho => h.wf o (List.mem_of_mem_take ho))
  have h2 : (os.take i).length ≤ 256 := by rw [List.length_take]; omega
  have h3 : ((os.take i).length : Int) * 4398046511104 ≤ 256 * 4398046511104 := by omega
  omega
def PushPost (w : World) (S : Nat → Prop) (p q : Nat) (m0 : Int) (os : List O) (o : O) (e : Ending) (w' : World) : Prop :=
  (e = .returned (.tuple #[.int .u64 ((q : Int) + ((os.length + 1 : Nat) : Int)), .int .i64 0]) ∧ PInv w' (plus S w w') p q m0 (os ++ [o]) ∧ GrowS S w w') ∨
  ∃ y : Int, (y = 1 ∨ y = 30) ∧ e = .returned (.tuple #[.int .u64 0, .int .i64 y]) ∧ Grow w w'
theorem push_cases {p q n c : Nat} {A : Option Addr} {o : O} {m0 : Int} {os : List O} {S : Nat → Prop} {w : World} (hI : PInv w S p q m0 os) (hL : Lies w 5 A n c (uns o.us)) (hA : ∀ a, A = some a → 0 < n → ¬ S a.block) (ho : OWf o)
    (hm : m0 ≤ 1152921504606846976) (hq : q + os.length < 1099511627776) (hk : os.length < 256) :
    Calls Try.prog 32 #[.pointer (some ⟨p, 0, none⟩), .agg #[.int .u32 o.cl, .int .u64 o.rq, .slice A n c, .bool o.un]] w (PushPost w S p q m0 os o) := by
  have hn : n * 40 ≤ 140737488355328 := by have := hL.uns_len; have := ho.n; omega
  have hlast := lensOf_get (m := m0) (os := os) (Nat.le_refl os.length)
  have h0 := hI.nn os.length (Nat.le_refl _)
  have h1 := hI.bd (Nat.le_of_lt hk) hm (Nat.le_refl os.length)
  rw [List.take_length] at hlast h0 h1
  obtain ⟨cl, rq, us, un⟩ := o
  rcases longV_cases us (m0 + growO os) with ⟨k, hl, hk2, hk3⟩ | hl | hl
  · refine (push_ok hI.is hL hA hn hlast hl h0 h1 hq hk).mono ?_
    rintro e w' ⟨rfl, hP, g⟩
    rw [hk2, lensOf_snoc m0 os ⟨cl, rq, us, un⟩] at hP
    refine .inl ⟨rfl, ⟨hP, fun x hx => ?_, fun i hi => ?_⟩, g⟩
    · rcases List.mem_append.1 hx with hx | hx
      · exact hI.wf x hx
      · simp at hx; subst hx; exact ho
    · rw [List.length_append, List.length_singleton] at hi
      by_cases e : i ≤ os.length
      · rw [List.take_append_of_le_length e]
        exact hI.nn i e
      · obtain rfl : i = os.length + 1 := by omega
        rw [List.take_of_length_le (by simp), growO_app, growO_one]
        have := hk3 h0
        show 0 ≤ m0 + (growO os + growU us)
        omega
  · refine (push_bad hI.is hL hn hlast hl h0 h1 (by omega) (by omega) (by decide)).mono ?_
    rintro e w' ⟨rfl, g⟩
    exact .inr ⟨1, .inl rfl, rfl, g⟩
  · refine (push_bad hI.is hL hn hlast hl h0 h1 (by omega) (by omega) (by decide)).mono ?_
    rintro e w' ⟨rfl, g⟩
    exact .inr ⟨30, .inr rfl, rfl, g⟩
theorem new_inv {q : Nat} {m z : Int} {w : World} (hz : (q : Int) = z) (hq : q ≤ 1099511627776) (hm : 0 ≤ m) :
    Calls Try.prog 30 #[.int .u64 z, .int .i64 m] w fun e w' => ∃ p : Nat, e = .returned (.tuple #[.pointer (some ⟨p, 0, none⟩), .int .i64 0]) ∧ PInv w' (anew w w') p q m [] ∧ Grow w w' :=
  (new_at hz hq hm).mono fun e w' ⟨p, h1, h2, h3⟩ => ⟨p, h1, ⟨by simpa [lensOf, growO] using h2, fun _ h => (by cases h), fun i _ => by simp [growO]; exact hm⟩, h3⟩
end Go.Proofs.Ytfpbmpgdpnpdjaa

