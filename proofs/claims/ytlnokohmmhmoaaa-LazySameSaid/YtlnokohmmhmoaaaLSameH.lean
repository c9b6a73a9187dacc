/-
  lazy: the plain law: what is at hand: a state's own documents, and older ones.
-/
import Derived.Test.YtlnokohmmhmoaaaLOwn
namespace Go.Proofs.Ytlnokohmmhmoaaa
open Go.RowKit
set_option linter.unusedSimpArgs false

def oldP (x : Pt) : Pt := { x with turn := (x.turn + 1) % 18446744073709551616, bs := [111, 108, 100] }
def handP (a : Nat) (x : Pt) : Option Pt := if a % 3 = 0 then none else if a % 3 = 1 then some (oldP x) else some x
def ownH (g : Nat → Nat) (ps : List Pt) : Nat → List Pt
  | 0 => []
  | j + 1 => match ps[j]? with
    | some x => ownH g ps j ++ (handP (g j) x).toList
    | none => ownH g ps j
section
variable {g : Nat → Nat} {ps : List Pt}
theorem ownH_at {j : Nat} {x : Pt} (hx : ps[j]? = some x) : ownH g ps (j + 1) = ownH g ps j ++ (handP (g j) x).toList := by simp [ownH, hx]
theorem hand_doc {a : Nat} {x y : Pt} (h : handP a x = some y) : y.doc = x.doc := by
  unfold handP at h
  split at h
  · cases h
  · split at h <;> injection h with h <;> subst h <;> rfl
theorem ownH_mem {y : Pt} : ∀ {j : Nat}, y ∈ ownH g ps j → ∃ i x, i < j ∧ ps[i]? = some x ∧ handP (g i) x = some y
  | 0, h => by cases h
  | j + 1, h => by
    cases hx : ps[j]? with
    | none =>
      simp only [ownH, hx] at h
      obtain ⟨i, x, h1, h2⟩ := ownH_mem h
      exact ⟨i, x, by omega, h2⟩
    | some x =>
      rw [ownH_at hx] at h
      rcases List.mem_append.1 h with h | h
      · obtain ⟨i, x, h1, h2⟩ := ownH_mem h
        exact ⟨i, x, by omega, h2⟩
      · exact ⟨j, x, by omega, hx, by simpa using h⟩
theorem ownH_len : ∀ j, (ownH g ps j).length ≤ j
  | 0 => Nat.le_refl _
  | j + 1 => by
    have := ownH_len j
    cases hx : ps[j]? with
    | none => simp only [ownH, hx]; omega
    | some x =>
      rw [ownH_at hx, List.length_append]
      cases handP (g j) x <;> simp <;> omega
theorem ownH_rises (hn : Numbered ps) : ∀ j, Rises (ownH g ps j)
  | 0 => fun i y x h => by simp [ownH] at h
  | j + 1 => by
    have ih := ownH_rises hn j
    cases hx : ps[j]? with
    | none => simpa only [ownH, hx] using ih
    | some x =>
      rw [ownH_at hx]
      cases hh : handP (g j) x with
      | none => simpa using ih
      | some z =>
        refine rises_snoc ih (fun y hy => ?_)
        obtain ⟨i, u, h1, h2, h3⟩ := ownH_mem hy
        rw [hand_doc hh, hand_doc h3, hn i u h2, hn j x hx]
        omega
theorem ownH_ok (hn : Numbered ps) (hw : ∀ x ∈ ps, x.turn < 18446744073709551616) (j : Nat) : HandOk (ownH g ps j) ps := fun x hx b hb => by
  obtain ⟨i, hi⟩ := List.getElem?_of_mem hx
  obtain ⟨e, he, h1, h2, rfl⟩ := handOf_some hb
  obtain ⟨k, u, h3, h4, h5⟩ := ownH_mem he
  have h6 := hand_doc h5
  have h7 := hn k u h4
  have h8 := hn i x hi
  obtain rfl : k = i := by omega
  rw [hi] at h4
  injection h4 with h4
  subst h4
  have h9 := hw x hx
  unfold handP at h5
  split at h5
  · cases h5
  · split at h5
    · injection h5 with h5
      subst h5
      have h2 : (x.turn + 1) % 18446744073709551616 = x.turn := h2
      omega
    · injection h5 with h5
      subst h5
      rfl
theorem ownH_wf (hg : GoodPs ps) {j : Nat} {y : Pt} (hy : y ∈ ownH g ps j) : PWf y := by
  obtain ⟨i, x, -, h1, h2⟩ := ownH_mem hy
  have hx := List.mem_of_getElem? h1
  have hw := hg.wf x hx
  unfold handP at h2
  split at h2
  · cases h2
  · split at h2
    · injection h2 with h2
      subst h2
      exact ⟨hw.doc, hw.rev, Nat.mod_lt _ (by decide), by show 3 ≤ 1000; decide⟩
    · injection h2 with h2
      subst h2
      exact hw
end
theorem wrap_turn (t : Nat) : IntKind.u64.wrap ((t : Int) + 1) = (((t + 1) % 18446744073709551616 : Nat) : Int) := by
  simp [IntKind.wrap, IntKind.bits, IntKind.signed]
theorem hand_none {y : Nat} {x : Pt} (h : y % 3 = 0) : handP y x = none := by unfold handP; rw [if_pos h]
theorem hand_old {y : Nat} {x : Pt} (h : y % 3 = 1) : handP y x = some (oldP x) := by unfold handP; rw [if_neg (by omega), if_pos h]
theorem hand_own {y : Nat} {x : Pt} (h : y % 3 ≠ 0) (h1 : y % 3 ≠ 1) : handP y x = some x := by unfold handP; rw [if_neg h, if_neg h1]
theorem wpList_appPtF {w : World} {ops : Array Oper} {rest : List Oper} {o : Oper} {a : Act} {Q : Exit → Act → World → Prop} (hgd : o.guard = none) (s x : Operand)
    (ho : o.op = .call { callee := .builtin .append, args := #[s, x], argTypes := #[24, 24] }) (base : Nat)
    (v : Value) (n : Nat) (l : List (Pt × Value)) (hs : a.eval s = v) (hown : w.ownsRow base 31 4 v n (l.flatMap pcell))
    (A : Option Addr) (m c : Nat) (r : List (Pt × Value)) (hx : a.eval x = .slice A m c) (hr : Lies w 4 A m c (r.flatMap pcell)) (hoc : ∀ x ∈ r, x.2.oneCell' = true) (hsum : (n + m) * 48 ≤ 140737488355328) (hbase : base ≤ w.heap.size)
    (h : ∀ (A' : Option Addr) (c' : Nat) (w' : World), w'.ownsRow base 31 4 (.slice A' (n + m) c') (n + m) ((l ++ r).flatMap pcell) → w.grownBy w' v.ownBlock → Fresh w v (.slice A' (n + m) c') →
      wpList Try.prog ops Q rest (a.put o.dst (.slice A' (n + m) c')) w') : wpList Try.prog ops Q (o :: rest) a w := by
  obtain ⟨i0, hi, hz0, hz1, hz2⟩ := info_parts info_ptt
  refine wpList_append_fresh w hgd s x _ ho base 31 i0 _ 4 48 Try.underlying24 hi hz0 hz1 hz2 rfl (by decide) v n _ hs hown A m c _ hx hr (flat_oc _ fun x hx => pcell_oc (hoc x hx)) (by simp only [maxLen]; omega) hsum hbase ?_
  intro v' w' h1 h2 h3
  rw [← List.flatMap_append] at h1
  obtain ⟨A', c', rfl, h4⟩ := own_form h1
  exact h A' c' w' h1 h2 h3
end Go.Proofs.Ytlnokohmmhmoaaa

