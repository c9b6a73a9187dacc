/-
  past: operations in memory; small lemmas on what stays.
-/
import Derived.Test.YtfpbmpgdpnpdjaaPBase
import Derived.Test.YtfpbmpgdpnpdjaaClean
import Derived.Laws.CopyOwn
namespace Go.Proofs.Ytfpbmpgdpnpdjaa
open Go.RowKit
set_option linter.unusedSimpArgs false

theorem GrowS.setCell {T : Nat → Prop} (w : World) {p : Addr} (h : T p.block) (v : Value) : GrowS T w (w.setCell p v) :=
  ⟨rfl, rfl, rfl, by simp [World.setCell], fun k _ hk => heap_setCell_other w p k v (fun e => hk (by rw [e]; exact h))⟩
theorem GrowS.setRow {T : Nat → Prop} (w : World) {g : Nat} (h : T g) (cs : Array Value) : GrowS T w (w.setRow g cs) :=
  ⟨rfl, rfl, rfl, by simp [World.setRow], fun k _ hk => setRow_other w g k cs (fun e => hk (by rw [e]; exact h))⟩
theorem GrowS.alloc {T : Nat → Prop} (w : World) (o : Obj) : GrowS T w (w.alloc o) := (Grow.alloc w o).wide T
/-- Nothing below has turned, if all that may turn is new. -/
theorem GrowS.over {T : Nat → Prop} {w0 w w' : World} (h : GrowS T w w') (g : Grow w0 w) (hT : ∀ k, T k → w0.heap.size ≤ k) : Grow w0 w' :=
  Below.trans g (h.below (B := w0.heap.size) g.size (fun k hk ht => by have := hT k ht; omega))
theorem GrowS.also {T : Nat → Prop} {w0 w w' : World} (h : GrowS T w0 w) (g : Grow w w') : GrowS T w0 w' := h.trans (g.wide T)
theorem GrowS.news {T S : Nat → Prop} {w0 w w' : World} (h : GrowS T w0 w) (k : GrowS S w w') (hS : ∀ i, S i → T i ∨ w0.heap.size ≤ i) : GrowS T w0 w' :=
  ⟨k.os.trans h.os, k.tape.trans h.tape, k.output.trans h.output, Nat.le_trans h.size k.size, fun i hi hn => (k.block i (Nat.lt_of_lt_of_le hi h.size) (fun hs => by rcases hS i hs with h1 | h1; exact hn h1; omega)).trans (h.block i hi hn)⟩

/-- What was committed. -/
structure O where
  cl : Int
  rq : Int
  us : List U
  un : Bool
deriving DecidableEq
def ocell (o : O) (v : Value) : List Value := [.int .u32 o.cl, .int .u64 o.rq, v, .bool o.un]
def ocs (l : List (O × Value)) : List Value := l.flatMap fun x => ocell x.1 x.2
theorem ocell_len (o : O) (v : Value) : (ocell o v).length = 4 := rfl
theorem ocs_cons (x : O × Value) (l : List (O × Value)) : ocs (x :: l) = ocell x.1 x.2 ++ ocs l := rfl
theorem ocs_app (a b : List (O × Value)) : ocs (a ++ b) = ocs a ++ ocs b := by simp [ocs]
theorem ocs_len (l : List (O × Value)) : (ocs l).length = l.length * 4 := by
  induction l with
  | nil => rfl
  | cons x l ih => rw [ocs_cons, List.length_append, ih, ocell_len, List.length_cons]; omega
theorem ocs_at : ∀ (l : List (O × Value)) (i : Nat) (x : O × Value), l[i]? = some x → ∀ j v, (ocell x.1 x.2)[j]? = some v → (ocs l)[i * 4 + j]? = some v
  | [], i, u, h, _, _, _ => by simp at h
  | a :: us, 0, u, h, j, v, hv => by
    simp at h; subst h
    rw [ocs_cons, Nat.zero_mul, Nat.zero_add, List.getElem?_append_left (List.getElem?_eq_some_iff.1 hv).1]
    exact hv
  | a :: us, i + 1, u, h, j, v, hv => by
    rw [ocs_cons, List.getElem?_append_right (by rw [ocell_len]; omega), ocell_len, show (i + 1) * 4 + j - 4 = i * 4 + j by omega]
    exact ocs_at us i u (by simpa using h) j v hv
theorem ocs_drop : ∀ (i : Nat) (l : List (O × Value)), (ocs l).drop (i * 4) = ocs (l.drop i)
  | 0, l => by simp
  | i + 1, [] => by simp [ocs]
  | i + 1, x :: l => by
    rw [ocs_cons, List.drop_append, ocell_len, List.drop_of_length_le (by rw [ocell_len]; omega), List.nil_append, show (i + 1) * 4 - 4 = i * 4 by omega, ocs_drop i l]
    rfl
theorem Lies.ocs_len {w : World} {A : Option Addr} {n c : Nat} {l : List (O × Value)} (h : Lies w 4 A n c (ocs l)) : l.length = n := by have := h.len; rw [Proofs.Ytfpbmpgdpnpdjaa.ocs_len] at this; omega
theorem info_op : (Try.prog.info? 67).map (fun i => (i.zero, i.size, i.bytes)) = some (some (.agg #[.int .u32 0, .int .u64 0, .slice none 0 0, .bool false]), 4, 48) := by kernel_rfl
theorem info_int : (Try.prog.info? 3).map (fun i => (i.zero, i.size, i.bytes)) = some (some (.int .i64 0), 1, 8) := by kernel_rfl

theorem GrowS.lies0 {T : Nat → Prop} {w w' : World} {sz n c : Nat} {A : Option Addr} {xs : List Value} (k : GrowS T w w') (h : Lies w sz A n c xs) (hT : ∀ a, A = some a → 0 < n → ¬ T a.block) : Lies w' sz A n c xs := by
  rcases Nat.eq_zero_or_pos n with rfl | hn
  · have hx : xs = [] := List.eq_nil_of_length_eq_zero (by rw [h.len]; simp)
    subst hx
    exact ⟨by simp, h.nilc, h.le, h.big, fun a ha j u hu => by simp at hu⟩
  · exact k.lies h (fun a ha => hT a ha hn)

/-- Operations lie; all their blocks are of S. -/
structure OpsLie (w : World) (S : Nat → Prop) (A : Option Addr) (n c : Nat) (l : List (O × Value)) : Prop where
  row : Lies w 4 A n c (ocs l)
  rowIn : ∀ a, A = some a → 0 < n → S a.block
  each : ∀ x ∈ l, ∃ A' n' c', x.2 = .slice A' n' c' ∧ Lies w 5 A' n' c' (uns x.1.us) ∧ ∀ a, A' = some a → 0 < n' → S a.block
theorem OpsLie.keep {w w' : World} {S T : Nat → Prop} {A : Option Addr} {n c : Nat} {l : List (O × Value)} (h : OpsLie w S A n c l) (g : GrowS T w w') (hT : ∀ k, S k → ¬ T k) : OpsLie w' S A n c l :=
  ⟨g.lies0 h.row (fun a ha h0 => hT _ (h.rowIn a ha h0)), h.rowIn, fun x hx => by
    obtain ⟨A', n', c', h1, h2, h3⟩ := h.each x hx
    exact ⟨A', n', c', h1, g.lies0 h2 (fun a ha h0 => hT _ (h3 a ha h0)), h3⟩⟩
theorem OpsLie.grow {w w' : World} {S : Nat → Prop} {A : Option Addr} {n c : Nat} {l : List (O × Value)} (h : OpsLie w S A n c l) (g : Grow w w') : OpsLie w' S A n c l :=
  h.keep (g.wide NoRow) (fun _ _ k => k)
theorem OpsLie.mono {w : World} {S S' : Nat → Prop} {A : Option Addr} {n c : Nat} {l : List (O × Value)} (h : OpsLie w S A n c l) (hS : ∀ k, S k → S' k) : OpsLie w S' A n c l :=
  ⟨h.row, fun a ha h0 => hS _ (h.rowIn a ha h0), fun x hx => by
    obtain ⟨A', n', c', h1, h2, h3⟩ := h.each x hx
    exact ⟨A', n', c', h1, h2, fun a ha h0 => hS _ (h3 a ha h0)⟩⟩
theorem OpsLie.nil (w : World) (S : Nat → Prop) : OpsLie w S none 0 0 [] := ⟨Lies.nil _ _, fun _ h => by (cases h), fun _ h => by (cases h)⟩
theorem OpsLie.cells {w : World} {S : Nat → Prop} {b o n c : Nat} {l : List (O × Value)} (h : OpsLie w S (some ⟨b, o, none⟩) n c l) {i : Nat} {r : O} {v : Value} (hi : l[i]? = some (r, v)) : ∀ W, Grow w W →
    W.cell? ⟨b, o + i * 4, none⟩ = some (.int .u32 r.cl) ∧ W.cell? ⟨b, o + i * 4 + 1, none⟩ = some (.int .u64 r.rq) ∧ W.cell? ⟨b, o + i * 4 + 2, none⟩ = some v ∧ W.cell? ⟨b, o + i * 4 + 3, none⟩ = some (.bool r.un) := by
  intro W g
  have key : ∀ j u, (ocell r v)[j]? = some u → W.cell? ⟨b, o + i * 4 + j, none⟩ = some u := fun j u hu => by
    have := h.row.cells _ rfl (i * 4 + j) u (ocs_at l i _ hi j u hu)
    rw [add_none, ← Nat.add_assoc] at this
    exact grow_cell this g
  exact ⟨key 0 _ rfl, key 1 _ rfl, key 2 _ rfl, key 3 _ rfl⟩
theorem own_nilO (w : World) (b : Nat) : w.ownsRow b 67 4 (.slice none 0 0) 0 (ocs []) := World.ownsRow_nil _ _ _ _
theorem own_nilI (w : World) (b : Nat) : w.ownsRow b 3 1 (.slice none 0 0) 0 [] := World.ownsRow_nil _ _ _ _
theorem lies_op {w : World} {e : TypeId} {g : Nat} (o : O) (v : Value) (hg : g = w.heap.size) : Lies (w.alloc (.cells #[.int .u32 o.cl, .int .u64 o.rq, v, .bool o.un] e)) 4 (some ⟨g, 0, none⟩) 1 1 (ocs [(o, v)]) := by
  subst hg
  exact Lies.new w e #[.int .u32 o.cl, .int .u64 o.rq, v, .bool o.un] 1 1 (Nat.le_refl _) (by decide) rfl
theorem ocs_oc (l : List (O × Value)) (h : ∀ x ∈ l, x.2.oneCell' = true) : ∀ v ∈ ocs l, v.oneCell' = true := by
  intro v hv
  obtain ⟨x, hx, hv⟩ := List.mem_flatMap.1 hv
  simp only [ocell, List.mem_cons, List.not_mem_nil, or_false] at hv
  rcases hv with rfl | rfl | rfl | rfl
  · rfl
  · rfl
  · exact h x hx
  · rfl
theorem wpList_appO {w : World} {ops : Array Oper} {rest : List Oper} {o : Oper} {a : Act} {Q : Exit → Act → World → Prop} (hgd : o.guard = none) (s x : Operand)
    (ho : o.op = .call { callee := .builtin .append, args := #[s, x], argTypes := #[58, 58] }) (base : Nat)
    (v : Value) (n : Nat) (l : List (O × Value)) (hs : a.eval s = v) (hown : w.ownsRow base 67 4 v n (ocs l))
    (A : Option Addr) (m c : Nat) (r : List (O × Value)) (hx : a.eval x = .slice A m c) (hr : Lies w 4 A m c (ocs r)) (hoc : ∀ x ∈ r, x.2.oneCell' = true) (hsum : (n + m) * 48 ≤ 140737488355328) (hbase : base ≤ w.heap.size)
    (h : ∀ (A' : Option Addr) (c' : Nat) (w' : World), w'.ownsRow base 67 4 (.slice A' (n + m) c') (n + m) (ocs (l ++ r)) → w.grownBy w' v.ownBlock → Fresh w v (.slice A' (n + m) c') →
      wpList Try.prog ops Q rest (a.put o.dst (.slice A' (n + m) c')) w') : wpList Try.prog ops Q (o :: rest) a w := by
  obtain ⟨i0, hi, hz0, hz1, hz2⟩ := info_parts info_op
  refine wpList_append_fresh w hgd s x _ ho base 67 i0 _ 4 48 Try.underlying58 hi hz0 hz1 hz2 rfl (by decide) v n (ocs l) hs hown A m c (ocs r) hx hr (ocs_oc _ hoc) (by simp only [maxLen]; omega) hsum hbase ?_
  intro v' w' h1 h2 h3
  rw [← ocs_app] at h1
  obtain ⟨A', c', rfl, h4⟩ := own_form h1
  exact h A' c' w' h1 h2 h3
end Go.Proofs.Ytfpbmpgdpnpdjaa

