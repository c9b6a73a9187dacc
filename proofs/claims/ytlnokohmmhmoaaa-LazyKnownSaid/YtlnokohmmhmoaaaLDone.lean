/-
  lazy: the contracts of none, next, Done, news.
-/
import Derived.Test.YtlnokohmmhmoaaaLIdx
namespace Go.Proofs.Ytlnokohmmhmoaaa
open Go.RowKit
set_option linter.unusedSimpArgs false

theorem fnone_made {p : Nat} {w : World} (c : w.cell? ⟨p, 11, none⟩ = some (.bool true)) : Calls Try.prog 28 #[.pointer (some ⟨p, 0, none⟩)] w fun e w' => e = .returned (.bool false) ∧ w = w' := by
  go_enter Try.func28, Try.ntmps28
  go_wp2
  go_ret
  exact ⟨rfl, rfl⟩
theorem fnone_nil {w : World} : Calls Try.prog 28 #[.pointer none] w fun e w' => e = .returned (.bool true) ∧ w = w' := by
  go_enter Try.func28, Try.ntmps28
  go_wp2
  go_ret
  exact ⟨rfl, rfl⟩
def nextF (f : F) : Int := idxI (fun d : Dt => !d.all) f.docs
def doneF (f : F) : Bool := decide (0 ≤ f.frm) && f.docs.all (·.all)
theorem idxI_neg {α : Type} {f : α → Bool} {l : List α} : decide (idxI f l < 0) = l.all (fun x => !f x) := by
  unfold idxI
  cases h : l.findIdx? f with
  | none =>
    rw [List.findIdx?_eq_none_iff] at h
    simp only [show decide ((-1 : Int) < 0) = true from rfl]
    symm
    rw [List.all_eq_true]
    intro x hx
    rw [h x hx]; rfl
  | some i =>
    rw [List.findIdx?_eq_some_iff_getElem] at h
    obtain ⟨h1, h2, -⟩ := h
    have e : decide (((i : Nat) : Int) < 0) = false := by simp
    simp only [e]
    symm
    rw [Bool.eq_false_iff]
    intro ha
    rw [List.all_eq_true] at ha
    have := ha _ (List.getElem_mem h1)
    rw [h2] at this
    cases this
theorem next_neg (f : F) : decide (nextF f < 0) = f.docs.all (·.all) := by
  unfold nextF
  rw [idxI_neg]
  simp
theorem fnext_any {T R : Nat → Prop} {p b : Nat} {f : F} {Rv V : Value} {l : List (Dt × Value)} {w : World} (h : FAt w T R p f b Rv V l) :
    Calls Try.prog 29 #[.pointer (some ⟨p, 0, none⟩)] w fun e w' => e = .returned (.int .i64 (nextF f)) ∧ Grow w w' := by
  obtain ⟨A, c, rfl⟩ := h.formV
  have c6 := h.c 6
  simp at c6
  have H := Lib.hid h
  obtain ⟨r, hr⟩ : ∃ r, nextF f = r := ⟨_, rfl⟩
  have HR := Lib.hid hr
  rw [hr]
  clear h hr
  go_enter Try.func29, Try.ntmps29
  go_wp2_with fail
  refine (idx_next (Lies.of_own H.out.docs) (fun x hx => by obtain ⟨A, n, c, e, -⟩ := (H.out.each x hx).lies; exact ⟨A, n, c, e⟩)).mono ?_
  rw [H.out.map, show idxI (fun d : Dt => !d.all) f.docs = r from HR.out]
  rintro e w1 ⟨rfl, g1⟩
  have G1 := Lib.hid g1
  clear g1 c6
  go_wp2
  go_ret
  exact ⟨rfl, G1.out⟩
theorem fdone_any {T R : Nat → Prop} {p : Nat} {f : F} {w : World} (h : FIs w T R p f) :
    Calls Try.prog 10 #[.pointer (some ⟨p, 0, none⟩)] w fun e w' => e = .returned (.bool (doneF f)) ∧ Grow w w' := by
  obtain ⟨b, Rv, V, l, h⟩ := h
  have c3 := h.c 3
  have c11 := h.c 11
  simp at c3 c11
  have H := Lib.hid h
  unfold doneF
  rw [← next_neg]
  clear h
  by_cases hf : 0 ≤ f.frm
  · have d1 : decide (f.frm ≥ 0) = true := by simp; omega
    have d2 : decide (0 ≤ f.frm) = true := by simp; omega
    rw [d2]
    go_enter Try.func10, Try.ntmps10
    go_wp2_with fail
    refine (fnone_made c11).mono ?_
    rintro e w1 ⟨rfl, rfl⟩
    go_wp2_with fail
    refine (fnext_any H.out).mono ?_
    rintro e w1 ⟨rfl, g1⟩
    have G1 := Lib.hid g1
    obtain ⟨r, hr⟩ : ∃ r, nextF f = r := ⟨_, rfl⟩
    have HR := Lib.hid hr
    rw [hr]
    clear g1 c3 c11 hr
    go_wp2
    go_ret
    exact ⟨by rw [HR.out]; simp, G1.out⟩
  · have d1 : decide (f.frm ≥ 0) = false := by simp; omega
    have d2 : decide (0 ≤ f.frm) = false := by simp; omega
    rw [d2]
    go_enter Try.func10, Try.ntmps10
    go_wp2_with fail
    refine (fnone_made c11).mono ?_
    rintro e w1 ⟨rfl, rfl⟩
    go_wp2
    go_ret
    exact ⟨by simp, Grow.refl _⟩
theorem done_nil {w : World} : Calls Try.prog 10 #[.pointer none] w fun e w' => e = .returned (.bool false) ∧ w = w' := by
  go_enter Try.func10, Try.ntmps10
  go_wp2_with fail
  refine fnone_nil.mono ?_
  rintro e w1 ⟨rfl, rfl⟩
  go_wp2
  go_ret
  exact ⟨rfl, rfl⟩
end Go.Proofs.Ytlnokohmmhmoaaa

