/-
  lazy: rows of documents as cells; the contracts of bytes.Clone, node, rise.
-/
import Derived.Test.YtlnokohmmhmoaaaLKey
import Derived.Test.YtlnokohmmhmoaaaBytes
import Derived.Lib.SliceRun
import Derived.BigFrame
import Derived.Deep.DeepCutAuto
namespace Go.Proofs.Ytlnokohmmhmoaaa
open Go.RowKit
set_option linter.unusedSimpArgs false

section
variable {α : Type} {f : α → List Value} {k : Nat}
theorem flat_len (hf : ∀ x, (f x).length = k) : ∀ l : List α, (l.flatMap f).length = l.length * k
  | [] => by simp
  | x :: l => by rw [List.flatMap_cons, List.length_append, flat_len hf l, hf, List.length_cons, Nat.add_mul]; omega
theorem flat_at (hf : ∀ x, (f x).length = k) : ∀ (l : List α) (i : Nat) (x : α), l[i]? = some x → ∀ j v, (f x)[j]? = some v → (l.flatMap f)[i * k + j]? = some v
  | [], i, x, h, _, _, _ => by simp at h
  | a :: l, 0, x, h, j, v, hv => by
    simp at h; subst h
    rw [List.flatMap_cons, Nat.zero_mul, Nat.zero_add, List.getElem?_append_left (List.getElem?_eq_some_iff.1 hv).1]
    exact hv
  | a :: l, i + 1, x, h, j, v, hv => by
    have e : (i + 1) * k + j - k = i * k + j := by rw [Nat.add_mul]; omega
    rw [List.flatMap_cons, List.getElem?_append_right (by rw [hf, Nat.add_mul]; omega), hf, e]
    exact flat_at hf l i x (by simpa using h) j v hv
theorem flat_set (hf : ∀ x, (f x).length = k) : ∀ (l : List α) (i j : Nat) (x y : α) (v : Value), l[i]? = some x → j < k → (f x).set j v = f y → (l.flatMap f).set (i * k + j) v = (l.set i y).flatMap f
  | [], i, j, x, y, v, h, _, _ => by simp at h
  | a :: l, 0, j, x, y, v, h, hj, hv => by
    simp at h; subst h
    rw [List.flatMap_cons, Nat.zero_mul, Nat.zero_add, List.set_append_left _ _ (by rw [hf]; exact hj), hv]
    simp
  | a :: l, i + 1, j, x, y, v, h, hj, hv => by
    have e : (i + 1) * k + j - k = i * k + j := by rw [Nat.add_mul]; omega
    rw [List.flatMap_cons, List.set_append_right _ _ (by rw [hf, Nat.add_mul]; omega), hf, e, flat_set hf l i j x y v (by simpa using h) hj hv]
    simp
theorem flat_take (hf : ∀ x, (f x).length = k) : ∀ (i : Nat) (l : List α), i ≤ l.length → (l.flatMap f).take (i * k) = (l.take i).flatMap f
  | 0, l, _ => by simp
  | i + 1, [], h => by simp at h
  | i + 1, x :: l, h => by
    have e : (i + 1) * k - k = i * k := by rw [Nat.add_mul]; omega
    rw [List.flatMap_cons, List.take_append, hf, e, flat_take hf i l (by simpa using h), List.take_of_length_le (by rw [hf, Nat.add_mul]; omega)]
    rfl
theorem flat_oc (l : List α) (h : ∀ x ∈ l, ∀ v ∈ f x, v.oneCell' = true) : ∀ v ∈ l.flatMap f, v.oneCell' = true := by
  intro v hv
  obtain ⟨x, hx, hv⟩ := List.mem_flatMap.1 hv
  exact h x hx v hv
theorem Lies.flat_n {w : World} {A : Option Addr} {n c : Nat} {l : List α} (hf : ∀ x, (f x).length = k) (hk : 0 < k) (h : Lies w k A n c (l.flatMap f)) : l.length = n := by
  have := h.len
  rw [flat_len hf] at this
  exact Nat.eq_of_mul_eq_mul_right hk this
theorem Lies.flat_cell {w : World} {b o n c i : Nat} {l : List α} {x : α} (hf : ∀ x, (f x).length = k) (h : Lies w k (some ⟨b, o, none⟩) n c (l.flatMap f)) (hx : l[i]? = some x) {j : Nat} {v : Value} (hv : (f x)[j]? = some v) : w.cell? ⟨b, o + i * k + j, none⟩ = some v := by
  have := h.cells _ rfl (i * k + j) v (flat_at hf l i x hx j v hv)
  rwa [add_none, ← Nat.add_assoc] at this
end
/-- A document of a state, as cells; of a fetch; of a plan. -/
def pcell (x : Pt × Value) : List Value := [.int .u32 x.1.doc, .int .u64 x.1.rev, .int .u64 x.1.turn, x.2]
theorem pcell_len (x : Pt × Value) : (pcell x).length = 4 := rfl
structure Dt where
  doc : Nat
  rev : Nat
  turn : Nat
  bs : List Nat
  total : Int
  all : Bool
deriving DecidableEq
def dcell (x : Dt × Value) : List Value := [.int .u32 x.1.doc, .int .u64 x.1.rev, .int .u64 x.1.turn, x.2, .int .i64 x.1.total, .bool x.1.all]
theorem dcell_len (x : Dt × Value) : (dcell x).length = 6 := rfl
structure Dc where
  doc : Nat
  rev : Nat
  turn : Nat
deriving DecidableEq
def ccell (x : Dc) : List Value := [.int .u32 x.doc, .int .u64 x.rev, .int .u64 x.turn]
theorem ccell_len (x : Dc) : (ccell x).length = 3 := rfl
theorem row_grow {w w' : World} {g : Nat} {o : Obj} (h : w.heap[g]? = some o) (k : Grow w w') : w'.heap[g]? = some o := (Below.block k g (Array.getElem?_eq_some_iff.1 h).1).trans h

set_option maxRecDepth 100000 in
theorem bclone_any {A : Option Addr} {n c : Nat} {bs : List Nat} {w : World} (hL : Lies w 1 A n c (byt bs)) (hn : n ≤ 140737488355328) :
    Calls Try.prog 27 #[.slice A n c] w fun e w' => ∃ A' c', e = .returned (.slice A' n c') ∧ w'.ownsRow w.heap.size 5 1 (.slice A' n c') n (byt bs) ∧ Grow w w' := by
  have hln := hL.len
  rw [byt_len, Nat.mul_one] at hln
  have q : ∀ (w : World) (a : Option Addr) (n c n' c' : Nat), (binOp .eql 23 (.slice a n c) (.slice none n' c')).run Try.prog w = .ok (.bool a.isNone) w := fun w a n c n' c' => Lib.run_eql_slice_nil w _ _ a n c n' c' Try.underlying23
  rcases A with _ | ad
  · obtain rfl := hL.none_ rfl
    obtain rfl := hL.nilc rfl
    obtain rfl : bs = [] := List.eq_nil_of_length_eq_zero hln
    clear hL
    go_enter Try.func27, Try.ntmps27
    go_wp2
    go_ret
    exact ⟨none, 0, rfl, own_nil8 _ _, Grow.refl _⟩
  · have HL := Lib.hid hL
    clear hL hln
    go_enter Try.func27, Try.ntmps27
    go_wp2_with (at_builtin; refine wpList_app8 rfl (.tmp 5) (.tmp 6) rfl w.heap.size _ 0 [] rfl (own_empty8 w (Nat.le_refl _) rfl) (some ad) n c bs rfl (HL.out.alloc _) (by omega) (by simp) ?_; intro A2 c2 w2 own2 L2 bel2)
    go_ret
    simp only [Nat.zero_add, List.nil_append] at own2 L2
    exact ⟨A2, c2, by simp, own2, bel2 _ _ ((Below.refl _ _).alloc (Nat.le_refl _) _) (Nat.le_refl _)⟩
theorem node_ok {m : Int} {w : World} (h0 : 0 ≤ m) (h1 : m < 7) : Calls Try.prog 24 #[.int .i64 m] w fun e w' => e = .returned (.bool true) ∧ w = w' := by
  have d0 : decide (m ≥ 0) = true := by simp; omega
  have d1 : decide (m < 7) = true := by simp; omega
  go_enter Try.func24, Try.ntmps24
  go_wp2
  go_ret
  exact ⟨rfl, rfl⟩
theorem node_bad {m : Int} {w : World} (h : m < 0 ∨ 7 ≤ m) : Calls Try.prog 24 #[.int .i64 m] w fun e w' => e = .returned (.bool false) ∧ w = w' := by
  by_cases h0 : m < 0
  · have d0 : decide (m ≥ 0) = false := by simp; omega
    go_enter Try.func24, Try.ntmps24
    go_wp2
    go_ret
    exact ⟨rfl, rfl⟩
  · have d0 : decide (m ≥ 0) = true := by simp; omega
    have d1 : decide (m < 7) = false := by simp; omega
    go_enter Try.func24, Try.ntmps24
    go_wp2
    go_ret
    exact ⟨rfl, rfl⟩
theorem numbered_any {x : Pt} {A : Option Addr} {n c : Nat} {w : World} : Calls Try.prog 26 #[.agg #[.int .u32 x.doc, .int .u64 x.rev, .int .u64 x.turn, .slice A n c]] w fun e w' => e = .returned (.int .u32 x.doc) ∧ Grow w w' := by
  go_enter Try.func26, Try.ntmps26
  go_wp2
  go_ret
  exact ⟨rfl, Grow.alloc _ _⟩
theorem plannum_any {x : Dc} {w : World} : Calls Try.prog 35 #[.agg #[.int .u32 x.doc, .int .u64 x.rev, .int .u64 x.turn]] w fun e w' => e = .returned (.int .u32 x.doc) ∧ Grow w w' := by
  go_enter Try.func35, Try.ntmps35
  go_wp2
  go_ret
  exact ⟨rfl, Grow.alloc _ _⟩
end Go.Proofs.Ytlnokohmmhmoaaa

