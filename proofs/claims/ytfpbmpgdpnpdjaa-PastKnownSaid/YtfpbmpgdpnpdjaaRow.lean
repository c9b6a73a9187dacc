/-
  edit: the contracts of unit.May, Row.
-/
import Derived.Test.YtfpbmpgdpnpdjaaBackP
namespace Go.Proofs.Ytfpbmpgdpnpdjaa
open Go.RowKit
set_option linter.unusedSimpArgs false

theorem umay_any {u : U} {w : World} : Calls Try.prog 13 #[.agg #[.int .i64 u.k, .int .i64 u.p, .int .i32 u.c, .int .u32 u.cl, .int .u64 u.rq]] w fun e w' => e = .returned (.bool (mayU u)) ∧ Grow w w' := by
  obtain ⟨k, p, c, cl, rq⟩ := u
  simp only [mayU]
  by_cases h0 : k = 0
  · subst h0
    by_cases h1 : p = 0
    · subst h1
      go_enter Try.func13, Try.ntmps13
      go_wp2
      go_ret
      refine ⟨ret_bool ?_, Grow.alloc _ _⟩
      first | rfl | simp
    · have e1 : (p == 0) = false := by simp [h1]
      go_enter Try.func13, Try.ntmps13
      go_wp2
      go_ret
      refine ⟨ret_bool ?_, Grow.alloc _ _⟩
      first | rfl | simp [h1]
  · have e0 : (k == 0) = false := by simp [h0]
    rw [if_neg h0]
    by_cases h3 : k = 1 ∨ k = 2
    · rw [if_pos h3]
      by_cases hp : 0 ≤ p
      · have d1 : decide (p ≥ 0) = true := by simp; omega
        have d2 : decide (0 ≤ p) = true := by simp; omega
        obtain ⟨r, hr⟩ : ∃ r, mayI c = r := ⟨_, rfl⟩
        have HR := Lib.hid hr
        rw [hr, d2]
        clear hr
        rcases h3 with rfl | rfl
        all_goals
          go_enter Try.func13, Try.ntmps13
          go_wp2_with fail
          refine (may_at r HR.out).mono ?_
          rintro e w1 ⟨rfl, rfl⟩
          go_wp2
          go_ret
          exact ⟨rfl, Grow.alloc _ _⟩
      · have d1 : decide (p ≥ 0) = false := by simp; omega
        have d2 : decide (0 ≤ p) = false := by simp; omega
        rw [d2]
        rcases h3 with rfl | rfl
        all_goals
          go_enter Try.func13, Try.ntmps13
          go_wp2
          go_ret
          exact ⟨rfl, Grow.alloc _ _⟩
    · rw [if_neg h3]
      have e1 : (k == 1) = false := by simp; omega
      have e2 : (k == 2) = false := by simp; omega
      go_enter Try.func13, Try.ntmps13
      go_wp2
      go_ret
      exact ⟨rfl, Grow.alloc _ _⟩

/-- Runs that lie in memory, anyhow. -/
structure RunsLie (w : World) (A : Option Addr) (n c : Nat) (l : List (R × Value)) : Prop where
  row : Lies w 5 A n c (rcs l)
  each : ∀ x ∈ l, ∃ A' c', x.2 = .slice A' x.1.cs.length c' ∧ Lies w 1 A' x.1.cs.length c' (chs x.1.cs)
theorem RunsAt.lie {w : World} {base n c : Nat} {A : Option Addr} {l : List (R × Value)} (h : RunsAt w base (.slice A n c) l) : RunsLie w A n c l := by
  have hn := own_len h.row
  subst hn
  exact ⟨Lies.of_own h.row, fun x hx => by obtain ⟨A', c', h1, h2⟩ := own_form (h.each x hx); exact ⟨A', c', h1, h2⟩⟩
theorem RunsLie.grow {w w' : World} {A : Option Addr} {n c : Nat} {l : List (R × Value)} (h : RunsLie w A n c l) (g : Grow w w') : RunsLie w' A n c l :=
  ⟨h.row.below g (Nat.le_refl _), fun x hx => by obtain ⟨A', c', h1, h2⟩ := h.each x hx; exact ⟨A', c', h1, h2.below g (Nat.le_refl _)⟩⟩
theorem RunsLie.cells {w : World} {b o n c : Nat} {l : List (R × Value)} (h : RunsLie w (some ⟨b, o, none⟩) n c l) {i : Nat} {r : R} {v : Value} (hi : l[i]? = some (r, v)) : ∀ W, Grow w W →
    W.cell? ⟨b, o + i * 5, none⟩ = some (.int .i64 r.k) ∧ W.cell? ⟨b, o + i * 5 + 1, none⟩ = some (.int .i64 r.p) ∧ W.cell? ⟨b, o + i * 5 + 2, none⟩ = some (.int .u32 r.cl) ∧ W.cell? ⟨b, o + i * 5 + 3, none⟩ = some (.int .u64 r.rq) ∧ W.cell? ⟨b, o + i * 5 + 4, none⟩ = some v := by
  intro W g
  have key : ∀ j u, (rcell r v)[j]? = some u → W.cell? ⟨b, o + i * 5 + j, none⟩ = some u := fun j u hu => by
    have := h.row.cells _ rfl (i * 5 + j) u (rcs_at l i _ hi j u hu)
    rw [add_none, ← Nat.add_assoc] at this
    exact grow_cell this g
  exact ⟨key 0 _ rfl, key 1 _ rfl, key 2 _ rfl, key 3 _ rfl, key 4 _ rfl⟩
theorem rowOf_take {rs : List R} {i : Nat} {r : R} (h : rs[i]? = some r) : rowOf (rs.take (i + 1)) = rowOf (rs.take i) ++ unitsOf r.k r.p r.cl r.rq r.cs := by
  rw [List.take_add_one, h, Option.toList_some, rowOf_app, rowOf_one]
theorem rowOf_le (rs : List R) (i : Nat) : (rowOf (rs.take i)).length ≤ (rowOf rs).length := by
  have : rowOf rs = rowOf (rs.take i) ++ rowOf (rs.drop i) := by rw [← rowOf_app, List.take_append_drop]
  rw [this, List.length_append]; omega

set_option maxRecDepth 100000 in
set_option maxHeartbeats 2000000 in
set_option linter.unusedVariables false in
theorem row_any {A : Option Addr} {n c : Nat} {l : List (R × Value)} {rs : List R} {w : World} (hrs : l.map (·.1) = rs) (hR : RunsLie w A n c l) (hn : (rowOf rs).length * 40 ≤ 140737488355328) :
    Calls Try.prog 16 #[.slice A n c] w fun e w' => ∃ A' m c', e = .returned (.slice A' m c') ∧ w'.ownsRow w.heap.size 30 5 (.slice A' m c') m (uns (rowOf rs)) ∧ Grow w w' := by
  have hle := hR.row.le
  have hbig := hR.row.big
  have hln := hR.row.rcs_len
  have HR := Lib.hid hR; have HLN := Lib.hid hln; have HRS := Lib.hid hrs; have HN := Lib.hid hn
  clear hR hln hrs hn
  go_enter Try.func16, Try.ntmps16
  go_wp2
  go_loopw [3, 8] (fun v i wr => ∃ (j m : Nat) (A1 : Option Addr) (c1 : Nat), j ≤ n ∧ i = .int .i64 j ∧ v = .slice A1 m c1 ∧ wr.ownsRow w.heap.size 30 5 (.slice A1 m c1) m (uns (rowOf (rs.take j))) ∧ Grow w wr) (fun _ i _ => n - (intOf i).toNat)
  case atStart => exact ⟨0, 0, none, 0, Nat.zero_le _, rfl, rfl, own_nilU _ _, Grow.refl _⟩
  case round =>
    obtain ⟨j, m, A1, c1, hj, rfl, rfl, own1, hg⟩ := hrel
    by_cases hlt : j < n
    · obtain ⟨⟨r, v⟩, hu⟩ : ∃ u, l[j]? = some u := ⟨_, List.getElem?_eq_getElem (by have := HLN.out; omega)⟩
      obtain ⟨A2, c2, hv, hL2⟩ := HR.out.each (r, v) (List.mem_of_getElem? hu)
      simp only at hv hL2
      subst hv
      obtain ⟨b, off, rfl, hbs, hcell⟩ := HR.out.row.pos (by omega) (by decide)
      obtain ⟨x0, x1, x2, x3, x4⟩ := HR.out.cells hu wr hg
      have hr : rs[j]? = some r := by rw [← HRS.out, List.getElem?_map, hu]; rfl
      have htk := rowOf_take hr
      have hm : m = (rowOf (rs.take j)).length := by have := (Lies.of_own own1).uns_len; omega
      have hle1 := rowOf_le rs (j + 1)
      have hsum : (m + r.cs.length) * 40 ≤ 140737488355328 := by
        rw [htk, List.length_append, unitsOf_len, ← hm] at hle1
        have := HN.out
        omega
      have O1 := Lib.hid own1; have G1 := Lib.hid hg; have L2 := Lib.hid (hL2.below (w' := wr) hg (Nat.le_refl _)); have HTK := Lib.hid htk; have HS := Lib.hid hsum
      obtain ⟨q, hq⟩ : ∃ q, r.cs.length = q := ⟨_, rfl⟩
      clear hu hcell own1 hg hL2 hr htk hm hle1 hsum
      rw [hq] at x4 L2 HS
      go_wp2_with fail
      refine (units_any (L2.out.alloc _) (by have := HS.out; omega)).mono ?_
      rintro e w1 ⟨A3, c3, rfl, own3, g3⟩
      have G3 := Lib.hid ((Grow.alloc wr _).trans g3)
      have L3 := Lib.hid (Lies.of_own own3)
      have O2 := Lib.hid (own_grow O1.out G3.out)
      clear own3 g3 x0 x1 x2 x3 x4
      go_wp2_with (at_builtin; refine wpList_appU rfl (.tmp 12) (.tmp 14) rfl w.heap.size _ m _ rfl O2.out A3 q c3 _ rfl L3.out HS.out (by have h1 := G1.out.size; have h2 := G3.out.size; omega) ?_; intro A4 c4 w4 own4 L4 bel4)
      have hb4 := bel4 _ _ (G1.out.trans G3.out) (Nat.le_refl _)
      rw [← HTK.out] at own4
      clear bel4 L4
      go_wp2
      go_roundw
      case rel => exact ⟨j + 1, _, A4, c4, by omega, by go_num, rfl, own4, hb4⟩
      case measure => simp [intOf]; omega
    · obtain rfl : j = n := by omega
      have e : rs.take j = rs := List.take_of_length_le (by have h1 := HLN.out; have h2 := congrArg List.length HRS.out; rw [List.length_map] at h2; omega)
      rw [e] at own1
      have O1 := Lib.hid own1; have G1 := Lib.hid hg
      clear e own1 hg
      go_wp2
      go_ret
      exact ⟨A1, m, c1, rfl, O1.out, G1.out⟩
end Go.Proofs.Ytfpbmpgdpnpdjaa

