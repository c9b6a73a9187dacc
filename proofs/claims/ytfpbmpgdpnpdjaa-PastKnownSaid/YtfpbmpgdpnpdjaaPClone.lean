/-
  past: the contracts of slices.Clone of operations, of lengths.
-/
import Derived.Test.YtfpbmpgdpnpdjaaPMem
namespace Go.Proofs.Ytfpbmpgdpnpdjaa
open Go.RowKit
set_option linter.unusedSimpArgs false

def ins (zs : List Int) : List Value := zs.map (Value.int .i64)
theorem ins_len (zs : List Int) : (ins zs).length = zs.length := by simp [ins]
theorem ins_app (a b : List Int) : ins (a ++ b) = ins a ++ ins b := by simp [ins]
theorem ins_drop (i : Nat) (a : List Int) : (ins a).drop i = ins (a.drop i) := by simp [ins, List.map_drop]
theorem ins_oc (l : List Int) : ∀ u ∈ ins l, u.oneCell' = true := by
  intro u hu
  obtain ⟨_, _, rfl⟩ := List.mem_map.1 hu
  rfl
theorem Lies.ins_len {w : World} {A : Option Addr} {n c : Nat} {zs : List Int} (h : Lies w 1 A n c (ins zs)) : zs.length = n := by have := h.len; rw [Proofs.Ytfpbmpgdpnpdjaa.ins_len] at this; omega
theorem wpList_appI {w : World} {ops : Array Oper} {rest : List Oper} {o : Oper} {a : Act} {Q : Exit → Act → World → Prop} (hgd : o.guard = none) (s x : Operand)
    (ho : o.op = .call { callee := .builtin .append, args := #[s, x], argTypes := #[62, 62] }) (base : Nat)
    (v : Value) (n : Nat) (l : List Int) (hs : a.eval s = v) (hown : w.ownsRow base 3 1 v n (ins l))
    (A : Option Addr) (m c : Nat) (r : List Int) (hx : a.eval x = .slice A m c) (hr : Lies w 1 A m c (ins r)) (hsum : (n + m) * 8 ≤ 140737488355328) (hbase : base ≤ w.heap.size)
    (h : ∀ (A' : Option Addr) (c' : Nat) (w' : World), w'.ownsRow base 3 1 (.slice A' (n + m) c') (n + m) (ins (l ++ r)) → w.grownBy w' v.ownBlock → Fresh w v (.slice A' (n + m) c') →
      wpList Try.prog ops Q rest (a.put o.dst (.slice A' (n + m) c')) w') : wpList Try.prog ops Q (o :: rest) a w := by
  obtain ⟨i0, hi, hz0, hz1, hz2⟩ := info_parts info_int
  refine wpList_append_fresh w hgd s x _ ho base 3 i0 _ 1 8 Try.underlying62 hi hz0 hz1 hz2 rfl (by decide) v n (ins l) hs hown A m c (ins r) hx hr (ins_oc _) (by simp only [maxLen]; omega) hsum hbase ?_
  intro v' w' h1 h2 h3
  rw [← ins_app] at h1
  obtain ⟨A', c', rfl, h4⟩ := own_form h1
  exact h A' c' w' h1 h2 h3
theorem own_emptyO (w : World) {base g : Nat} (hb : base ≤ w.heap.size) (hg : g = w.heap.size) : (w.alloc (.cells #[] 67)).ownsRow base 67 4 (.slice (some ⟨g, 0, none⟩) 0 0) 0 (ocs []) := by
  subst hg
  exact World.ownsRow_made w #[] 0 hb (by simp [maxLen]) rfl
theorem own_emptyI (w : World) {base g : Nat} (hb : base ≤ w.heap.size) (hg : g = w.heap.size) : (w.alloc (.cells #[] 3)).ownsRow base 3 1 (.slice (some ⟨g, 0, none⟩) 0 0) 0 (ins []) := by
  subst hg
  exact World.ownsRow_made w #[] 0 hb (by simp [maxLen]) rfl
/-- Behind an append onto a new row nothing of before has turned. -/
theorem grown_new {w0 w w' : World} {row : Option Nat} (h : w.grownBy w' row) (g : Grow w0 w) (hr : ∀ k, row = some k → w0.heap.size ≤ k) : Grow w0 w' :=
  (h.wide (T := fun k => row = some k) (fun _ k => k)).over g hr
set_option maxRecDepth 100000 in
theorem cloneO_any {A : Option Addr} {n c : Nat} {l : List (O × Value)} {w : World} (hL : Lies w 4 A n c (ocs l)) (hoc : ∀ x ∈ l, x.2.oneCell' = true) (hn : n * 48 ≤ 140737488355328) :
    Calls Try.prog 65 #[.slice A n c] w fun e w' => ∃ A' c', e = .returned (.slice A' n c') ∧ w'.ownsRow w.heap.size 67 4 (.slice A' n c') n (ocs l) ∧ Grow w w' := by
  have hln := hL.ocs_len
  have q : ∀ (w : World) (a : Option Addr) (n c n' c' : Nat), (binOp .eql 58 (.slice a n c) (.slice none n' c')).run Try.prog w = .ok (.bool a.isNone) w := fun w a n c n' c' => Lib.run_eql_slice_nil w _ _ a n c n' c' Try.underlying58
  rcases A with _ | ad
  · obtain rfl := hL.none_ rfl
    obtain rfl := hL.nilc rfl
    obtain rfl : l = [] := List.eq_nil_of_length_eq_zero hln
    clear hL
    go_enter Try.func65, Try.ntmps65
    go_wp2
    go_ret
    exact ⟨none, 0, rfl, own_nilO _ _, Grow.refl _⟩
  · have HL := Lib.hid hL
    have HOC := Lib.hid hoc
    clear hL hln hoc
    go_enter Try.func65, Try.ntmps65
    go_wp2_with (at_builtin; refine wpList_appO rfl (.tmp 5) (.tmp 6) rfl w.heap.size _ 0 [] rfl (own_emptyO w (Nat.le_refl _) rfl) (some ad) n c l rfl (HL.out.alloc _) HOC.out (by omega) (by simp) ?_; intro A2 c2 w2 own2 gr2 fr2)
    go_ret
    simp only [Nat.zero_add, List.nil_append] at own2
    exact ⟨A2, c2, by simp, own2, grown_new gr2 (Grow.alloc _ _) (fun k hk => by have hk : some w.heap.size = some k := hk; injection hk with hk; omega)⟩
set_option maxRecDepth 100000 in
theorem cloneI_any {A : Option Addr} {n c : Nat} {l : List Int} {w : World} (hL : Lies w 1 A n c (ins l)) (hn : n * 8 ≤ 140737488355328) :
    Calls Try.prog 64 #[.slice A n c] w fun e w' => ∃ A' c', e = .returned (.slice A' n c') ∧ w'.ownsRow w.heap.size 3 1 (.slice A' n c') n (ins l) ∧ Grow w w' := by
  have hln := hL.ins_len
  have q : ∀ (w : World) (a : Option Addr) (n c n' c' : Nat), (binOp .eql 62 (.slice a n c) (.slice none n' c')).run Try.prog w = .ok (.bool a.isNone) w := fun w a n c n' c' => Lib.run_eql_slice_nil w _ _ a n c n' c' Try.underlying62
  rcases A with _ | ad
  · obtain rfl := hL.none_ rfl
    obtain rfl := hL.nilc rfl
    obtain rfl : l = [] := List.eq_nil_of_length_eq_zero hln
    clear hL
    go_enter Try.func64, Try.ntmps64
    go_wp2
    go_ret
    exact ⟨none, 0, rfl, own_nilI _ _, Grow.refl _⟩
  · have HL := Lib.hid hL
    clear hL hln
    go_enter Try.func64, Try.ntmps64
    go_wp2_with (at_builtin; refine wpList_appI rfl (.tmp 5) (.tmp 6) rfl w.heap.size _ 0 [] rfl (own_emptyI w (Nat.le_refl _) rfl) (some ad) n c l rfl (HL.out.alloc _) (by omega) (by simp) ?_; intro A2 c2 w2 own2 gr2 fr2)
    go_ret
    simp only [Nat.zero_add, List.nil_append] at own2
    exact ⟨A2, c2, by simp, own2, grown_new gr2 (Grow.alloc _ _) (fun k hk => by have hk : some w.heap.size = some k := hk; injection hk with hk; omega)⟩
end Go.Proofs.Ytfpbmpgdpnpdjaa

