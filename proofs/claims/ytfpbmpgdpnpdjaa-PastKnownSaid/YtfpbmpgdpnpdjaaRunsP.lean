/-
  edit, the plain law of runs; no program in sight.
-/
import Derived.Test.YtfpbmpgdpnpdjaaSame
namespace Go.Proofs.Ytfpbmpgdpnpdjaa
open Go.RowKit

/-- A run. -/
structure R where
  k : Int
  p : Int
  cl : Int
  rq : Int
  cs : List Int
def follows (r : R) (u : U) : Bool := decide (r.k = u.k) && (decide (r.cl = u.cl) && decide (r.rq = u.rq)) && decide (u.p = wrap64 (r.p + wrap64 ((r.cs.length : Int) * stepI u.k)))
/-- Does a unit go on with the last run? -/
def goes (rs : List R) (u : U) : Bool := match rs.getLast? with
  | none => false
  | some r => !decide (u.k = 0) && follows r u
def newR (u : U) : R := ⟨u.k, u.p, u.cl, u.rq, []⟩
/-- A char onto the last run. -/
def onto (rs : List R) (c : Int) : List R := match rs.getLast? with
  | none => []
  | some r => rs.dropLast ++ [{ r with cs := r.cs ++ [c] }]
def addU (rs : List R) (u : U) : List R := onto (if goes rs u then rs else rs ++ [newR u]) u.c
def runsOf (us : List U) : List R := us.foldl addU []
theorem runsOf_snoc {us : List U} {i : Nat} {u : U} (h : us[i]? = some u) : runsOf (us.take (i + 1)) = addU (runsOf (us.take i)) u := by
  unfold runsOf
  rw [List.take_add_one, h]
  simp [List.foldl_append]
theorem onto_snoc (rs : List R) (r : R) (c : Int) : onto (rs ++ [r]) c = rs ++ [{ r with cs := r.cs ++ [c] }] := by simp [onto]
theorem goes_snoc (rs : List R) (r : R) (u : U) : goes (rs ++ [r]) u = (!decide (u.k = 0) && follows r u) := by simp [goes]
theorem goes_nil (u : U) : goes [] u = false := rfl
theorem addU_new {rs : List R} {u : U} (h : goes rs u = false) : addU rs u = rs ++ [{ newR u with cs := [u.c] }] := by
  unfold addU
  rw [h]
  simp [onto_snoc, newR]
theorem addU_on {rs : List R} {r : R} {u : U} (h : goes (rs ++ [r]) u = true) : addU (rs ++ [r]) u = rs ++ [{ r with cs := r.cs ++ [u.c] }] := by
  unfold addU
  rw [if_pos h, onto_snoc]
theorem addU_len (rs : List R) (u : U) : (addU rs u).length = rs.length + (if goes rs u then 0 else 1) := by
  cases h : goes rs u with
  | false => rw [addU_new h]; simp
  | true =>
    rcases List.eq_nil_or_concat rs with rfl | ⟨q, r, rfl⟩
    · cases h
    · rw [List.concat_eq_append] at h ⊢
      rw [addU_on h]; simp
theorem runsOf_len (us : List U) : (runsOf us).length ≤ us.length := by
  suffices h : ∀ (us : List U) (rs : List R), (us.foldl addU rs).length ≤ rs.length + us.length by simpa [runsOf] using h us []
  intro us
  induction us with
  | nil => intro rs; simp
  | cons u us ih =>
    intro rs
    have h1 := ih (addU rs u)
    have h2 := addU_len rs u
    simp only [List.foldl_cons, List.length_cons]
    split at h2 <;> omega
end Go.Proofs.Ytfpbmpgdpnpdjaa

