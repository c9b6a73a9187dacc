/-
  edit: the chapter's rows ('wakes').
-/
import Derived.Test.YtfpbmpgdpnpdjaaRuns
import Derived.Test.YtfpbmpgdpnpdjaaErase
namespace Go.Proofs.Ytfpbmpgdpnpdjaa
open Go.RowKit
set_option linter.unusedSimpArgs false

theorem type_ok {pos cl rq : Int} {A : Option Addr} {n cap : Nat} {cs : List Int} {w : World} (hL : Lies w 1 A n cap (chs cs)) (h0 : 0 ≤ pos) (h1 : cs.length ≤ 256) (h2 : ∀ x ∈ cs, mayI x = true) :
    Calls Try.prog 19 #[.int .i64 pos, .slice A n cap, .agg #[.int .u32 cl, .int .u64 rq]] w fun e w' => ∃ A' c', e = .returned (.tuple #[.slice A' cs.length c', .int .i64 0]) ∧ Grow w w' ∧ w'.ownsRow w.heap.size 30 5 (.slice A' cs.length c') cs.length (uns (unitsOf 1 pos cl rq cs)) :=
  (type_any hL).mono fun e w' ⟨A', n', c', E, he, hg, h⟩ => by
    rcases h with ⟨h, _⟩ | ⟨_, h, _⟩ | ⟨_, _, h, _⟩ | ⟨_, _, _, rfl, rfl, h⟩
    · omega
    · omega
    · exact absurd h2 h
    · exact ⟨A', c', he, hg, h⟩
theorem erase_ok {pos cl rq : Int} {m : Nat} {w : World} (h0 : 0 ≤ pos) (h1 : m ≤ 256) :
    Calls Try.prog 21 #[.int .i64 pos, .int .i64 m, .agg #[.int .u32 cl, .int .u64 rq]] w fun e w' => ∃ A' c', e = .returned (.tuple #[.slice A' m c', .int .i64 0]) ∧ Grow w w' ∧ w'.ownsRow w.heap.size 30 5 (.slice A' m c') m (uns (unitsOf 2 pos cl rq (List.replicate m 0))) :=
  erase_any.mono fun e w' ⟨A', n', c', E, he, hg, h⟩ => by
    rcases h with ⟨h, _⟩ | ⟨_, h, _⟩ | ⟨_, _, _, rfl, h2, h⟩
    · omega
    · omega
    · obtain rfl : n' = m := by omega
      exact ⟨A', c', he, hg, h⟩
theorem lies_chars {w : World} {e : TypeId} {g : Nat} (l : List Int) (C : Array Value) (n : Nat) (hC : C.toList = chs l) (hn : l.length = n) (hb : n ≤ 9223372036854775807) (hg : g = w.heap.size) : Lies (w.alloc (.cells C e)) 1 (some ⟨g, 0, none⟩) n n (chs l) := by
  subst hg
  rw [← hC]
  exact Lies.new w e C n n (Nat.le_refl _) hb (by rw [hC, chs_len]; omega)
theorem own_cells {w : World} {base : Nat} {e : TypeId} {n : Nat} {v : Value} {us : List U} (h : w.ownsRow base e 5 v n (uns us)) (hn : 0 < n) : ∃ b c, v = .slice (some ⟨b, 0, none⟩) n c ∧ base ≤ b ∧ ∀ i u, us[i]? = some u → ∀ W, Grow w W → W.cell? ⟨b, i * 5, none⟩ = some (.int .i64 u.k) ∧ W.cell? ⟨b, i * 5 + 1, none⟩ = some (.int .i64 u.p) := by
  obtain ⟨b, c, rfl⟩ := own_pos h hn
  refine ⟨b, c, rfl, (h.lt b rfl).1, fun i u hu W g => ?_⟩
  obtain ⟨x0, x1, -⟩ := (Lies.of_own h).unit_cells hu W g
  rw [Nat.zero_add] at x0 x1
  exact ⟨x0, x1⟩
/-- The cells of a run in memory. -/
theorem RunsAt.cells {w : World} {base b n c : Nat} {l : List (R × Value)} (h : RunsAt w base (.slice (some ⟨b, 0, none⟩) n c) l) {i : Nat} {r : R} {v : Value} (hi : l[i]? = some (r, v)) : ∀ j u, (rcell r v)[j]? = some u → w.cell? ⟨b, i * 5 + j, none⟩ = some u := by
  intro j u hu
  have := h.row.cells (g := b) rfl (i * 5 + j) u (rcs_at l i _ hi j u hu)
  rwa [add_none, Nat.zero_add] at this

set_option maxRecDepth 100000 in
set_option maxHeartbeats 2000000 in
theorem wakes8 {w : World} : Calls Try.prog 14 #[] w fun e w' => e = .returned (.bool true) ∧ Grow w w' := by
  go_enter Try.func14, Try.ntmps14
  go_wp2_with fail
  refine (type_ok (lies_chars [97, 98] _ 2 rfl rfl (by decide) rfl) (by decide) (by decide) (by decide)).mono ?_
  rw [show unitsOf 1 2 1 0 [97, 98] = [⟨1, 2, 97, 1, 0⟩, ⟨1, 3, 98, 1, 0⟩] from by kernel_rfl, show ([97, 98] : List Int).length = 2 from rfl]
  rintro e w1 ⟨A1, c1, rfl, g1, own1⟩
  have G1 := Lib.hid (Grow.trans (Grow.alloc w _) g1)
  have O1 := Lib.hid (own1.mono (b2 := w.heap.size) (by simp))
  clear g1 own1
  go_wp2_with fail
  refine (erase_ok (m := 2) (by decide) (by decide)).mono ?_
  rw [show unitsOf 2 2 1 0 (List.replicate 2 0) = [⟨2, 2, 0, 1, 0⟩, ⟨2, 2, 0, 1, 0⟩] from by kernel_rfl]
  rintro e w2 ⟨A2, c2, rfl, g2, own2⟩
  have G2 := Lib.hid g2
  have O2 := Lib.hid own2
  obtain ⟨b1, c1', hv1, -, hc1⟩ := own_cells O1.out (by decide)
  injection hv1 with hA _ hc; subst hA hc
  obtain ⟨b2, c2', hv2, -, hc2⟩ := own_cells O2.out (by decide)
  injection hv2 with hA _ hc; subst hA hc
  have p0 : w2.cell? ⟨b1, 1, none⟩ = some (.int .i64 2) := (hc1 0 _ rfl w2 g2).2
  have p1 : w2.cell? ⟨b1, 6, none⟩ = some (.int .i64 3) := (hc1 1 _ rfl w2 g2).2
  have q0 : w2.cell? ⟨b2, 1, none⟩ = some (.int .i64 2) := (hc2 0 _ rfl w2 (Grow.refl _)).2
  have q2 : w2.cell? ⟨b2, 5, none⟩ = some (.int .i64 2) := (hc2 1 _ rfl w2 (Grow.refl _)).1
  have q3 : w2.cell? ⟨b2, 6, none⟩ = some (.int .i64 2) := (hc2 1 _ rfl w2 (Grow.refl _)).2
  clear hc1 hc2 own2 g2
  have hO1 := own_grow O1.out G2.out
  have hL2 := Lies.of_own O2.out
  have HO1 := Lib.hid hO1; have HL2 := Lib.hid hL2
  clear hO1 hL2 O1 O2
  go_wp2_with (at_builtin; refine wpList_appU rfl (.tmp 68) (.tmp 69) rfl w.heap.size (.slice (some ⟨b1, 0, none⟩) 2 c1) 2 [⟨1, 2, 97, 1, 0⟩, ⟨1, 3, 98, 1, 0⟩] rfl HO1.out (some ⟨b2, 0, none⟩) 2 c2 [⟨2, 2, 0, 1, 0⟩, ⟨2, 2, 0, 1, 0⟩] rfl HL2.out (by decide) (by have h1 := G1.out.size; have h2 := G2.out.size; omega) ?_; intro A3 c3 w3 own3 L3 bel3)
  have g3 := bel3 _ _ (G1.out.trans G2.out) (Nat.le_refl _)
  refine (runs_any L3 (by decide)).mono ?_
  rintro e w4 ⟨V, l, rfl, hl, hR, g4⟩
  have G4 := Lib.hid (Grow.trans g3 g4)
  clear bel3 own3 L3 g3 g4 p0 p1 q0 q2 q3
  rw [show runsOf ([⟨1, 2, 97, 1, 0⟩, ⟨1, 3, 98, 1, 0⟩] ++ [⟨2, 2, 0, 1, 0⟩, ⟨2, 2, 0, 1, 0⟩]) = [⟨1, 2, 1, 0, [97, 98]⟩, ⟨2, 2, 1, 0, [0, 0]⟩] from by kernel_rfl] at hl
  match l, hl, hR with
  | [(r1, v1), (r2, v2)], hl, hR =>
  simp only [List.map_cons, List.map_nil, List.cons.injEq, and_true] at hl
  obtain ⟨rfl, rfl⟩ := hl
  obtain ⟨b, c, rfl⟩ := own_pos hR.row (by simp)
  obtain ⟨A5, c5, hv1, -⟩ := own_form (hR.each _ (List.mem_cons_self ..))
  obtain ⟨A6, c6, hv2, -⟩ := own_form (hR.each _ (List.mem_cons_of_mem _ (List.mem_cons_self ..)))
  simp only at hv1 hv2
  subst hv1 hv2
  have p0 : w4.cell? ⟨b, 0, none⟩ = some (.int .i64 1) := hR.cells (i := 0) rfl 0 _ rfl
  have p1 : w4.cell? ⟨b, 1, none⟩ = some (.int .i64 2) := hR.cells (i := 0) rfl 1 _ rfl
  have p2 : w4.cell? ⟨b, 4, none⟩ = some (.slice A5 2 c5) := hR.cells (i := 0) rfl 4 _ rfl
  have q0 : w4.cell? ⟨b, 5, none⟩ = some (.int .i64 2) := hR.cells (i := 1) rfl 0 _ rfl
  have q1 : w4.cell? ⟨b, 6, none⟩ = some (.int .i64 2) := hR.cells (i := 1) rfl 1 _ rfl
  have q2 : w4.cell? ⟨b, 9, none⟩ = some (.slice A6 2 c6) := hR.cells (i := 1) rfl 4 _ rfl
  clear hR
  go_wp2
  go_ret
  exact ⟨rfl, G4.out⟩
end Go.Proofs.Ytfpbmpgdpnpdjaa

