/-
  edit: the contracts of the reference's Erase, of Concat, of both packages' Replace.
-/
import Derived.Test.YtfpbmpgdpnpdjaaMakes
import Derived.Lib.AppendZeros
namespace Go.Proofs.Ytfpbmpgdpnpdjaa
open Go.RowKit
set_option linter.unusedSimpArgs false

set_option maxRecDepth 100000 in
set_option maxHeartbeats 2000000 in
theorem rerase_any {pos n cl rq : Int} {w : World} (hp : -9223372036854775808 ≤ pos ∧ pos ≤ 9223372036854775807) :
    Calls Try.prog 22 #[.int .i64 pos, .int .i64 n, .agg #[.int .u32 cl, .int .u64 rq]] w (Gives (resE pos n cl rq) (errE pos n) w) := by
  have HP := Lib.hid hp
  clear hp
  by_cases h0 : pos < 0 ∨ n < 0
  · have e : errE pos n = 1 := by simp only [errE, if_pos h0]
    have HR := Lib.hid fun w' g => gives_nil (w := w) (w' := w') g e.symm (us := resE pos n cl rq) (by simp [resE, e])
    clear e
    by_cases hq : pos < 0
    · have d0 : decide (pos < 0) = true := by simp; omega
      clear h0
      go_enter Try.func22, Try.ntmps22
      go_wp2
      go_ret2
      exact HR.out _ (Grow.alloc _ _)
    · have d0 : decide (pos < 0) = false := by simp; omega
      have d1 : decide (n < 0) = true := by simp; omega
      have hn : n < 0 := by omega
      clear h0
      go_enter Try.func22, Try.ntmps22
      go_wp2
      go_ret2
      exact HR.out _ (Grow.alloc _ _)
  by_cases h1 : 256 < n
  · have e : errE pos n = 3 := by simp only [errE, if_neg h0, if_pos h1]
    have HR := Lib.hid fun w' g => gives_nil (w := w) (w' := w') g e.symm (us := resE pos n cl rq) (by simp [resE, e])
    have hq : ¬ pos < 0 := by omega
    have hn : ¬ n < 0 := by omega
    have d0 : decide (pos < 0) = false := by simp; omega
    have d1 : decide (n < 0) = false := by simp; omega
    clear e h0
    go_enter Try.func22, Try.ntmps22
    go_wp2
    go_ret2
    exact HR.out _ (Grow.alloc _ _)
  obtain ⟨m, rfl⟩ := Int.eq_ofNat_of_zero_le (show 0 ≤ n by omega)
  have hm : m ≤ 256 := by omega
  have hp0 : 0 ≤ pos := by omega
  have e : errE pos m = 0 := by simp only [errE, if_neg h0, if_neg h1]
  have e2 : resE pos m cl rq = unitsOf 2 pos cl rq (List.replicate m 0) := by simp [resE, e]
  have HE := Lib.hid e; have HE2 := Lib.hid e2
  have n1 : (0 : Int) ≤ (m : Int) := by omega
  have n2 : (m : Int) ≤ 256 := by omega
  have d0 : decide (pos < 0) = false := by simp; omega
  have d1 : decide ((m : Int) < 0) = false := by simp
  have d2 : decide ((256 : Int) < (m : Int)) = false := by simp; omega
  clear h0 h1 e e2
  go_enter Try.func22, Try.ntmps22
  go_wp2
  go_loopw [8, 9] (fun v i wr => ∃ (j : Nat) (A1 : Option Addr) (c1 : Nat), j ≤ m ∧ i = .int .i64 j ∧ v = .slice A1 j c1 ∧ wr.ownsRow (w.heap.size + 1) 30 5 (.slice A1 j c1) j (uns (unitsOf 2 pos cl rq (List.replicate j 0))) ∧ Grow (w.alloc (.cells #[.int .u32 cl, .int .u64 rq] 28)) wr) (fun _ i _ => m - (intOf i).toNat)
  case atStart => exact ⟨0, none, 0, Nat.zero_le _, rfl, rfl, own_nilU _ _, Grow.refl _⟩
  case round =>
    obtain ⟨j, A1, c1, hj, rfl, rfl, own1, hg⟩ := hrel
    have G1 := Lib.hid hg; have O1 := Lib.hid own1
    by_cases hlt : j < m
    · have b0 : wr.cell? ⟨w.heap.size, 0, none⟩ = some (.int .u32 cl) := grow_cell (cell_of_row _ w.heap.size 0 _ _ (0, 0) (heap_alloc_new w _)) hg
      have b1 : wr.cell? ⟨w.heap.size, 1, none⟩ = some (.int .u64 rq) := grow_cell (cell_of_row _ w.heap.size 1 _ _ (0, 0) (heap_alloc_new w _)) hg
      clear hg own1
      go_wp2_with (at_builtin; refine wpList_appU rfl (.tmp 23) (.tmp 27) rfl (w.heap.size + 1) _ j _ rfl (own_grow O1.out (Grow.alloc _ _)) (some ⟨wr.heap.size, 0, none⟩) 1 1 [⟨2, pos, 0, cl, rq⟩] rfl (lies_unit ⟨2, pos, 0, cl, rq⟩ rfl) (by omega) (by have := G1.out.size; simp at this ⊢; omega) ?_; intro A3 c3 w3 own3 L3 bel3)
      have GB := Lib.hid (bel3 _ _ (G1.out.trans (Grow.alloc _ _)) (by simp))
      rw [← mkU_del (j := j) HP.out, ← unitsOf_rep] at own3
      clear bel3 L3
      go_wp2
      go_roundw
      case rel => exact ⟨j + 1, A3, c3, by omega, by go_num, rfl, own3, GB.out⟩
      case measure => simp [intOf]; omega
    · obtain rfl : j = m := by omega
      have HF := Lib.hid (gives_one (w := w) HE.out.symm HE2.out.symm (own1.mono (by omega)) ((Grow.alloc w _).trans hg))
      clear own1 hg
      go_wp2
      go_ret2
      exact HF.out

set_option maxRecDepth 100000 in
theorem growU_any {m : Nat} {w : World} (hm : m * 40 ≤ 140737488355328) :
    Calls Try.prog 72 #[.slice none 0 0, .int .i64 m] w fun e w' => ∃ A c, e = .returned (.slice A 0 c) ∧ w'.ownsRow w.heap.size 30 5 (.slice A 0 c) 0 (uns []) ∧ Below w.heap.size w w' := by
  rcases Nat.eq_zero_or_pos m with rfl | h0
  · go_enter Try.func72, Try.ntmps72
    go_wp2
    go_ret
    exact ⟨_, _, rfl, own_nilU _ _, Below.refl _ _⟩
  · obtain ⟨i0, hi, hz0, hz1, hz2⟩ := info_parts info_unit
    have hzc : (Value.agg #[.int .i64 0, .int .i64 0, .int .i32 0, .int .u32 0, .int .u64 0]).cells.size = 5 := rfl
    have hge := grownCap_ge w m 0 30
    have hown := World.ownsRow_made (base := w.heap.size) (e := 30) (size := 5) w.drew (Builtin.zeroCells (Value.agg #[.int .i64 0, .int .i64 0, .int .i32 0, .int .u32 0, .int .u64 0]).cells m ++ Builtin.zeroCells (Value.agg #[.int .i64 0, .int .i64 0, .int .i32 0, .int .u32 0, .int .u64 0]).cells (grownCap w m 0 30 - m)) (grownCap w m 0 30) (Nat.le_refl _) (grownCap_le_maxLen w m 0 _ (by simp only [maxLen]; omega)) (by rw [Array.size_append, size_zeroCells, size_zeroCells, hzc, ← Nat.add_mul]; congr 1; omega)
    have hn : (0 : Int) < (m : Int) := by omega
    clear hge hzc
    go_enter Try.func72, Try.ntmps72
    go_wp2_with (at_builtin; refine Lib.wpList_append_run _ rfl (.tmp 20) (.tmp 21) _ _ rfl _ _ rfl rfl _ _ (Lib.run_append_nil_zeros w 22 3 _ 30 i0 _ .i64 .i64 Try.underlying22 Try.underlying3 hi hz0 m h0 (by rw [hz1]; decide) (by omega) (by rw [hz2]; omega)) ?_)
    go_ret
    exact ⟨_, _, rfl, hown, ((Below.refl _ _).drew).alloc (Nat.le_refl _) _⟩

def S2 (n1 n2 : Nat) : Nat → Nat
  | 0 => 0
  | 1 => n1
  | _ => n1 + n2
def P2 (a b : List U) : Nat → List U
  | 0 => []
  | 1 => a
  | _ => a ++ b
set_option maxRecDepth 100000 in
set_option maxHeartbeats 2000000 in
theorem concat_any {g n1 c1 n2 c2 : Nat} {A1 A2 : Option Addr} {a b : List U} {w : World} (hs : w.cell? ⟨g, 0, none⟩ = some (.slice A1 n1 c1)) (hs2 : w.cell? ⟨g, 1, none⟩ = some (.slice A2 n2 c2)) (h1 : Lies w 5 A1 n1 c1 (uns a)) (h2 : Lies w 5 A2 n2 c2 (uns b)) (hn : (n1 + n2) * 40 ≤ 140737488355328) :
    Calls Try.prog 54 #[.slice (some ⟨g, 0, none⟩) 2 2] w fun e w' => ∃ A m c, e = .returned (.slice A m c) ∧ w'.ownsRow w.heap.size 30 5 (.slice A m c) m (uns (a ++ b)) ∧ Grow w w' := by
  have H1 := Lib.hid h1; have H2 := Lib.hid h2; have HS := Lib.hid hs; have HS2 := Lib.hid hs2
  have hle1 := h1.le; have hle2 := h2.le; have hb1 := h1.big; have hb2 := h2.big
  clear h1 h2 hs hs2
  go_enter Try.func54, Try.ntmps54
  go_wp2
  go_loopw [3, 11] (fun s i wr => ∃ k : Nat, k ≤ 2 ∧ i = .int .i64 k ∧ s = .int .i64 (S2 n1 n2 k : Nat) ∧ w = wr) (fun _ i _ => 2 - (intOf i).toNat)
  case atStart => exact ⟨0, by omega, rfl, rfl, rfl⟩
  case round =>
    obtain ⟨k, hk, rfl, rfl, rfl⟩ := hrel
    match k, hk with
    | 0, _ =>
      have q := HS.out
      rw [show ((0 : Nat) : Int) = 0 from rfl]
      have e : S2 n1 n2 0 = 0 := rfl
      rw [e]
      have w1 : wrap64 ((0 : Int) + (n1 : Int)) = (n1 : Int) := by unfold wrap64; omega
      go_wp2
      go_roundw
      case rel => exact ⟨1, by omega, rfl, by simp [S2], by first | rfl | trivial⟩
      case measure => simp [intOf]
    | 1, _ =>
      have q := HS2.out
      rw [show ((1 : Nat) : Int) = 1 from rfl]
      have e : S2 n1 n2 1 = n1 := rfl
      rw [e]
      go_wp2
      go_roundw
      case rel => exact ⟨2, by omega, rfl, by simp [S2], by first | rfl | trivial⟩
      case measure => simp [intOf]
    | 2, _ =>
      rw [show ((2 : Nat) : Int) = 2 from rfl]
      have e : S2 n1 n2 2 = n1 + n2 := rfl
      rw [e]
      go_wp2_with fail
      refine (growU_any hn).mono ?_
      rintro e w1 ⟨A3, c3, rfl, own3, g3⟩
      have O3 := Lib.hid own3; have G3 := Lib.hid g3
      clear own3 g3
      go_wp2
      go_loopw [6, 27] (fun s i wr => ∃ (k : Nat) (A : Option Addr) (c : Nat), k ≤ 2 ∧ i = .int .i64 k ∧ s = .slice A (S2 n1 n2 k) c ∧ wr.ownsRow w.heap.size 30 5 (.slice A (S2 n1 n2 k) c) (S2 n1 n2 k) (uns (P2 a b k)) ∧ Grow w wr) (fun _ i _ => 2 - (intOf i).toNat)
      case atStart => exact ⟨0, A3, c3, by omega, rfl, rfl, O3.out, G3.out⟩
      case round =>
        obtain ⟨k, A, c, hk, rfl, rfl, own, g⟩ := hrel
        match k, hk with
        | 0, _ =>
          have q := grow_cell HS.out g
          have O := Lib.hid own; have G := Lib.hid g
          clear own g
          rw [show ((0 : Nat) : Int) = 0 from rfl, show S2 n1 n2 0 = 0 from rfl]
          go_wp2_with (at_builtin; refine wpList_appU rfl (.tmp 31) (.tmp 32) rfl w.heap.size _ 0 [] rfl O.out A1 n1 c1 a rfl (H1.out.below G.out (Nat.le_refl _)) (by omega) G.out.size ?_; intro A5 c5 w5 own5 L5 bel5)
          have G5 := Lib.hid (bel5 _ _ G.out (Nat.le_refl _))
          rw [Nat.zero_add, List.nil_append] at own5
          clear bel5 L5
          go_wp2
          go_roundw
          case rel => exact ⟨1, A5, c5, by omega, rfl, by simp [S2], own5, G5.out⟩
          case measure => simp [intOf]
        | 1, _ =>
          have q := grow_cell HS2.out g
          have O := Lib.hid own; have G := Lib.hid g
          clear own g
          rw [show ((1 : Nat) : Int) = 1 from rfl, show S2 n1 n2 1 = n1 from rfl]
          go_wp2_with (at_builtin; refine wpList_appU rfl (.tmp 31) (.tmp 32) rfl w.heap.size _ n1 a rfl O.out A2 n2 c2 b rfl (H2.out.below G.out (Nat.le_refl _)) (by omega) G.out.size ?_; intro A5 c5 w5 own5 L5 bel5)
          have G5 := Lib.hid (bel5 _ _ G.out (Nat.le_refl _))
          clear bel5 L5
          go_wp2
          go_roundw
          case rel => exact ⟨2, A5, c5, by omega, rfl, rfl, own5, G5.out⟩
          case measure => simp [intOf]
        | 2, _ =>
          have O := Lib.hid own; have G := Lib.hid g
          clear own g
          rw [show ((2 : Nat) : Int) = 2 from rfl]
          go_wp2
          go_ret
          exact ⟨A, n1 + n2, c, rfl, O.out, G.out⟩
end Go.Proofs.Ytfpbmpgdpnpdjaa

