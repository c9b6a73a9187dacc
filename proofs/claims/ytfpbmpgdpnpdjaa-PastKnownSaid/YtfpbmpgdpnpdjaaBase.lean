/-
  edit: units, ids, runs as cells; the contracts of May, step.
-/
import Derived.Test.YtfpbmpgdpnpdjaaMem
import Derived.Test.YtfpbmpgdpnpdjaaFacts
import Derived.Test.YtfpbmpgdpnpdjaaPlain
import Derived.Test.YtfpbmpgdpnpdjaaRows
import Derived.Outline
import Derived.Deep.MidRow
import Derived.Deep.DeepCutAuto
import Derived.Laws.BitsAllLaws
import Derived.IntWalk
namespace Go.Proofs.Ytfpbmpgdpnpdjaa
open Go.RowKit
set_option linter.unusedSimpArgs false

theorem ret_int {k : IntKind} {a b : Int} (h : a = b) : Ending.returned (.int k a) = .returned (.int k b) := by rw [h]
theorem then_ {a b c : World} (h : Below a.heap.size a b) (k : Below b.heap.size b c) : Below a.heap.size a c := h.trans (k.mono h.size)
/-- A text as cells. -/
def chs (zs : List Int) : List Value := zs.map (Value.int .i32)
theorem chs_len (zs : List Int) : (chs zs).length = zs.length := by simp [chs]
theorem Lies.chs_len {w : World} {A : Option Addr} {n c : Nat} {zs : List Int} (h : Lies w 1 A n c (chs zs)) : zs.length = n := by have := h.len; rw [Proofs.Ytfpbmpgdpnpdjaa.chs_len] at this; omega
theorem chs_one (l : List Int) : ∀ u ∈ chs l, u.oneCell' = true := by
  intro u hu
  obtain ⟨_, _, rfl⟩ := List.mem_map.1 hu
  rfl
theorem chs_app (a b : List Int) : chs (a ++ b) = chs a ++ chs b := by simp [chs]

/-- A unit. -/
structure U where
  k : Int
  p : Int
  c : Int
  cl : Int
  rq : Int
deriving DecidableEq
def ucell (u : U) : List Value := [.int .i64 u.k, .int .i64 u.p, .int .i32 u.c, .int .u32 u.cl, .int .u64 u.rq]
def uns (us : List U) : List Value := us.flatMap ucell
theorem ucell_len (u : U) : (ucell u).length = 5 := rfl
theorem uns_nil : uns [] = [] := rfl
theorem uns_cons (u : U) (us : List U) : uns (u :: us) = ucell u ++ uns us := rfl
theorem uns_app (a b : List U) : uns (a ++ b) = uns a ++ uns b := by simp [uns]
theorem uns_len (us : List U) : (uns us).length = us.length * 5 := by
  induction us with
  | nil => rfl
  | cons u us ih => rw [uns_cons, List.length_append, ih, ucell_len, List.length_cons]; omega
theorem uns_oc (us : List U) : ∀ v ∈ uns us, v.oneCell' = true := by
  intro v hv
  obtain ⟨u, _, hv⟩ := List.mem_flatMap.1 hv
  simp only [ucell, List.mem_cons, List.not_mem_nil, or_false] at hv
  rcases hv with rfl | rfl | rfl | rfl | rfl <;> rfl
theorem uns_at : ∀ (us : List U) (i : Nat) (u : U), us[i]? = some u → ∀ j v, (ucell u)[j]? = some v → (uns us)[i * 5 + j]? = some v
  | [], i, u, h, _, _, _ => by simp at h
  | a :: us, 0, u, h, j, v, hv => by
    simp at h; subst h
    rw [uns_cons, Nat.zero_mul, Nat.zero_add, List.getElem?_append_left (List.getElem?_eq_some_iff.1 hv).1]
    exact hv
  | a :: us, i + 1, u, h, j, v, hv => by
    rw [uns_cons, List.getElem?_append_right (by rw [ucell_len]; omega), ucell_len, show (i + 1) * 5 + j - 5 = i * 5 + j by omega]
    exact uns_at us i u (by simpa using h) j v hv
theorem Lies.uns_len {w : World} {A : Option Addr} {n c : Nat} {us : List U} (h : Lies w 5 A n c (uns us)) : us.length = n := by have := h.len; rw [Proofs.Ytfpbmpgdpnpdjaa.uns_len] at this; omega
theorem Lies.unit {w : World} {b off n c i : Nat} {us : List U} {u : U} (h : Lies w 5 (some ⟨b, off, none⟩) n c (uns us)) (hu : us[i]? = some u) : w.rangeAt b (off + i * 5) (ucell u) := by
  intro j v hv
  have := h.cells _ rfl (i * 5 + j) v (uns_at us i u hu j v hv)
  rwa [add_none, ← Nat.add_assoc] at this
theorem info_unit : (Try.prog.info? 30).map (fun i => (i.zero, i.size, i.bytes)) = some (some (.agg #[.int .i64 0, .int .i64 0, .int .i32 0, .int .u32 0, .int .u64 0]), 5, 40) := by kernel_rfl
theorem info_char : (Try.prog.info? 24).map (fun i => (i.zero, i.size, i.bytes)) = some (some (.int .i32 0), 1, 4) := by kernel_rfl
theorem own_nilU (w : World) (b : Nat) : w.ownsRow b 30 5 (.slice none 0 0) 0 (uns []) := World.ownsRow_nil _ _ _ _
theorem wpList_appU {w : World} {ops : Array Oper} {rest : List Oper} {o : Oper} {a : Act} {Q : Exit → Act → World → Prop} (hgd : o.guard = none) (s x : Operand)
    (ho : o.op = .call { callee := .builtin .append, args := #[s, x], argTypes := #[22, 22] }) (base : Nat)
    (v : Value) (n : Nat) (l : List U) (hs : a.eval s = v) (hown : w.ownsRow base 30 5 v n (uns l))
    (A : Option Addr) (m c : Nat) (r : List U) (hx : a.eval x = .slice A m c) (hr : Lies w 5 A m c (uns r)) (hsum : (n + m) * 40 ≤ 140737488355328) (hbase : base ≤ w.heap.size)
    (h : ∀ (A' : Option Addr) (c' : Nat) (w' : World), w'.ownsRow base 30 5 (.slice A' (n + m) c') (n + m) (uns (l ++ r)) → Lies w' 5 A' (n + m) c' (uns (l ++ r)) → (∀ (B : Nat) (w0 : World), Below B w0 w → B ≤ base → Below B w0 w') →
      wpList Try.prog ops Q rest (a.put o.dst (.slice A' (n + m) c')) w') : wpList Try.prog ops Q (o :: rest) a w := by
  obtain ⟨i0, hi, hz0, hz1, hz2⟩ := info_parts info_unit
  refine wpList_append_lies w hgd s x _ ho base 30 i0 _ 5 40 Try.underlying22 hi hz0 hz1 hz2 rfl (by decide) v n (uns l) hs hown A m c (uns r) hx hr (uns_oc _) (by simp only [maxLen]; omega) hsum hbase ?_
  intro v' w' h1 _ h3
  rw [← uns_app] at h1
  obtain ⟨A', c', rfl, h4⟩ := own_form h1
  exact h A' c' w' h1 h4 h3

theorem may_any {c : Int} {w : World} : Calls Try.prog 46 #[.int .i32 c] w fun e w' => e = .returned (.bool (mayI c)) ∧ w = w' := by
  have hm := mayI_iff c
  obtain ⟨r, hr⟩ : ∃ r, mayI c = r := ⟨_, rfl⟩
  rw [hr] at hm ⊢
  have key : (0 ≤ c ∧ c < 55296 ∧ r = true) ∨ (0 ≤ c ∧ 55296 ≤ c ∧ c ≤ 57343 ∧ r = false) ∨ (57343 < c ∧ c ≤ 1114111 ∧ r = true) ∨ (1114111 < c ∧ r = false) ∨ (c < 0 ∧ r = false) := by
    cases r with
    | true => have := hm.1 rfl; simp; omega
    | false =>
      have : ¬ (0 ≤ c ∧ c ≤ 1114111 ∧ (c < 55296 ∨ 57343 < c)) := fun h => by have := hm.2 h; cases this
      simp only [and_true, and_false, or_false, false_or]
      simp
      omega
  clear hm hr
  rcases key with ⟨h1, h2, rfl⟩ | ⟨h1, h2, h3, rfl⟩ | ⟨h1, h2, rfl⟩ | ⟨h1, rfl⟩ | ⟨h1, rfl⟩
  all_goals
    go_enter Try.func46, Try.ntmps46
    go_wp2
    go_ret
    exact ⟨by first | rfl | (congr; simp; omega), rfl⟩
theorem may_at {c : Int} {w : World} (r : Bool) (h : mayI c = r) : Calls Try.prog 46 #[.int .i32 c] w fun e w' => e = .returned (.bool r) ∧ w = w' := by
  subst h; exact may_any
def stepI (k : Int) : Int := if k = 1 then 1 else 0
theorem step_any {k : Int} {w : World} : Calls Try.prog 48 #[.int .i64 k] w fun e w' => e = .returned (.int .i64 (stepI k)) ∧ w = w' := by
  unfold stepI
  by_cases h : k = 1
  · subst h
    go_enter Try.func48, Try.ntmps48
    go_wp2
    go_ret
    exact ⟨rfl, rfl⟩
  · rw [if_neg h]
    have e1 : (k == 1) = false := by simp [h]
    go_enter Try.func48, Try.ntmps48
    go_wp2
    go_ret
    exact ⟨rfl, rfl⟩
end Go.Proofs.Ytfpbmpgdpnpdjaa

