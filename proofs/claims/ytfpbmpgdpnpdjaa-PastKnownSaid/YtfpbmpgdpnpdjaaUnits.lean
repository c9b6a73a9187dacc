/-
  edit: the contract of Run.units.
-/
import Derived.Test.YtfpbmpgdpnpdjaaBase
import Derived.Laws.CopyOwn
namespace Go.Proofs.Ytfpbmpgdpnpdjaa
open Go.RowKit
set_option linter.unusedSimpArgs false

/-- The i-th unit of a run. -/
def mkU (k p cl rq : Int) (i : Nat) (c : Int) : U := if k = 0 then ⟨0, 0, 0, cl, rq⟩ else ⟨k, wrap64 (p + wrap64 ((i : Int) * stepI k)), c, cl, rq⟩
def unitsOf (k p cl rq : Int) (cs : List Int) : List U := cs.mapIdx (mkU k p cl rq)
theorem unitsOf_len (k p cl rq : Int) (cs : List Int) : (unitsOf k p cl rq cs).length = cs.length := by simp [unitsOf]
theorem unitsOf_snoc {k p cl rq c : Int} {cs : List Int} {i : Nat} (h : cs[i]? = some c) : unitsOf k p cl rq (cs.take (i + 1)) = unitsOf k p cl rq (cs.take i) ++ [mkU k p cl rq i c] := by
  have hi := (List.getElem?_eq_some_iff.1 h).1
  unfold unitsOf
  rw [List.take_add_one, h, Option.toList_some, List.mapIdx_append]
  simp [Nat.min_eq_left (Nat.le_of_lt hi)]

theorem unit_oc (k p c cl rq : Int) : (#[Value.int .i64 k, Value.int .i64 p, Value.int .i32 c, Value.int .u32 cl, Value.int .u64 rq] : Array Value).all (·.oneCell') = true := by
  simp [Value.oneCell']
theorem lies_unit {w : World} {e : TypeId} {g : Nat} (u : U) (hg : g = w.heap.size) : Lies (w.alloc (.cells #[.int .i64 u.k, .int .i64 u.p, .int .i32 u.c, .int .u32 u.cl, .int .u64 u.rq] e)) 5 (some ⟨g, 0, none⟩) 1 1 (uns [u]) := by
  subst hg
  exact Lies.new w e #[.int .i64 u.k, .int .i64 u.p, .int .i32 u.c, .int .u32 u.cl, .int .u64 u.rq] 1 1 (Nat.le_refl _) (by decide) rfl
theorem row_grow {w w' : World} {g : Nat} {o : Obj} (h : w.heap[g]? = some o) (k : Grow w w') : w'.heap[g]? = some o := (Below.block k g (Array.getElem?_eq_some_iff.1 h).1).trans h

set_option maxRecDepth 100000 in
set_option maxHeartbeats 2000000 in
set_option linter.unusedVariables false in
theorem units_any {k p cl rq : Int} {A : Option Addr} {n cap : Nat} {cs : List Int} {w : World} (hL : Lies w 1 A n cap (chs cs)) (hn : n * 40 ≤ 140737488355328) :
    Calls Try.prog 49 #[.agg #[.int .i64 k, .int .i64 p, .int .u32 cl, .int .u64 rq, .slice A n cap]] w fun e w' => ∃ A' c', e = .returned (.slice A' n c') ∧ w'.ownsRow w.heap.size 30 5 (.slice A' n c') n (uns (unitsOf k p cl rq cs)) ∧ Grow w w' := by
  have hle := hL.le
  have hbig := hL.big
  have hln := hL.chs_len
  have HL := Lib.hid hL; have HLN := Lib.hid hln
  clear hL hln
  go_enter Try.func49, Try.ntmps49
  go_wp2
  go_loopw [3, 10] (fun v i wr => ∃ (j : Nat) (A1 : Option Addr) (c1 : Nat), j ≤ n ∧ i = .int .i64 j ∧ v = .slice A1 j c1 ∧ wr.ownsRow (w.heap.size + 1) 30 5 (.slice A1 j c1) j (uns (unitsOf k p cl rq (cs.take j))) ∧ Grow (w.alloc (.cells #[.int .i64 k, .int .i64 p, .int .u32 cl, .int .u64 rq, .slice A n cap] 38)) wr) (fun _ i _ => n - (intOf i).toNat)
  case atStart => exact ⟨0, none, 0, Nat.zero_le _, rfl, rfl, own_nilU _ _, Grow.refl _⟩
  case round =>
    obtain ⟨j, A1, c1, hj, rfl, rfl, own1, hg⟩ := hrel
    have cb : ∀ (i : Nat) (v : Value), ([.int .i64 k, .int .i64 p, .int .u32 cl, .int .u64 rq, .slice A n cap] : List Value)[i]? = some v → ∀ W : World, Grow wr W → W.cell? ⟨w.heap.size, i, none⟩ = some v := fun i v h W g => grow_cell (by rw [cell_of_row _ w.heap.size i _ _ (0, 0) (heap_alloc_new w _)]; simpa using h) (hg.trans g)
    have O1 := Lib.hid own1; have G1 := Lib.hid hg; have CB := Lib.hid cb
    clear own1 hg cb
    by_cases hlt : j < n
    · have b0 := CB.out 0 _ rfl
      have b1 := CB.out 1 _ rfl
      have b2 := CB.out 2 _ rfl
      have b3 := CB.out 3 _ rfl
      obtain ⟨c, hc⟩ : ∃ c, cs[j]? = some c := ⟨_, List.getElem?_eq_getElem (by have := HLN.out; omega)⟩
      obtain ⟨b, off, rfl, hbs, hcell⟩ := HL.out.pos (by omega) (by decide)
      have hcc : wr.cell? ⟨b, off + j, none⟩ = some (.int .i32 c) := grow_cell (hcell j _ (by simp [chs, hc])) ((Grow.alloc _ _).trans G1.out)
      obtain ⟨s, hs⟩ : ∃ s, stepI k = s := ⟨_, rfl⟩
      have HS := Lib.hid hs; have HC := Lib.hid hc
      clear hs hc hcell
      go_wp2_with fail
      refine Chain.start Nat (by kernel_rfl) (by kernel_rfl) (fun hg => ?_)
      repeat (first | (refine Chain.skip hg (fun t => by rfl) ?_; simp only [Act.put, List.setIfInBounds_toArray, List.set_cons_zero, List.set_cons_succ]) | (refine Chain.pure hg (X := ?_) (fun t W hw hN => ⟨by rfl, ?_⟩) ?_; rotate_left; (focus (go_simp <;> with_reducible rfl)); simp only [Act.put, List.setIfInBounds_toArray, List.set_cons_zero, List.set_cons_succ]))
      refine Chain.grow hg (fun _ => .int .i64 s) (fun _ _ => True) (fun _ _ _ h _ => h) (fun _ => by rfl) (fun t W hw hN K hK => ?_) ?_
      · go_simp; refine step_any.mono ?_; rw [HS.out]; rintro e w9 ⟨rfl, rfl⟩; exact hK.out default _ (Grow.refl _) trivial
      simp only [Act.put, List.setIfInBounds_toArray, List.set_cons_zero, List.set_cons_succ]
      repeat (first | (refine Chain.skip hg (fun t => by rfl) ?_; simp only [Act.put, List.setIfInBounds_toArray, List.set_cons_zero, List.set_cons_succ]) | (refine Chain.pure hg (X := ?_) (fun t W hw hN => ⟨by rfl, ?_⟩) ?_; rotate_left; (focus (go_simp <;> with_reducible rfl)); simp only [Act.put, List.setIfInBounds_toArray, List.set_cons_zero, List.set_cons_succ]))
      refine Chain.grow hg (fun g => .pointer (some ⟨g, 0, none⟩)) (fun g V => V.heap[g]? = some (.cells #[.int .i64 0, .int .i64 0, .int .i32 0, .int .u32 0, .int .u64 0] 30 (0, 0)) ∧ wr.heap.size ≤ g) (fun _ _ _ h k => ⟨row_grow h.1 k, h.2⟩) (fun _ => by rfl) (fun t W hw hN K hK => ?_) ?_
      · go_simp; exact hK.out _ _ (Grow.alloc _ _) ⟨heap_alloc_new _ _, hw.size⟩
      simp only [Act.put, List.setIfInBounds_toArray, List.set_cons_zero, List.set_cons_succ]
      refine Chain.tail (tail_of (by kernel_rfl)) (fun t V hv hN => ?_)
      have hbox := hN.get 14 rfl (by kernel_rfl)
      generalize t 14 = g at *
      obtain ⟨hrow, hgl⟩ := hbox
      have HV := Lib.hid hv
      clear hN hg b0 b1 b2 b3 hv
      refine wpList_store_row rfl _ _ _ rfl g #[.int .i64 k, .int .i64 (IntKind.i64.wrap (p + IntKind.i64.wrap ((j : Int) * s))), .int .i32 c, .int .u32 cl, .int .u64 rq] rfl rfl _ _ hrow (by kernel_rfl) rfl (unit_oc _ _ _ _ _) ?_
      obtain ⟨q, hq⟩ : ∃ q, IntKind.i64.wrap (p + IntKind.i64.wrap ((j : Int) * s)) = q := ⟨_, rfl⟩
      rw [hq]
      have hgr : Grow wr (V.setRow g #[.int .i64 k, .int .i64 q, .int .i32 c, .int .u32 cl, .int .u64 rq]) := below_setRow HV.out hgl _
      have hrw := setRow_heap V g _ #[.int .i64 k, .int .i64 q, .int .i32 c, .int .u32 cl, .int .u64 rq] _ _ hrow
      generalize V.setRow g #[.int .i64 k, .int .i64 q, .int .i32 c, .int .u32 cl, .int .u64 rq] = W2 at *
      have HQ := Lib.hid hq; have HR2 := Lib.hid hrw; have HG2 := Lib.hid hgr; have HGL := Lib.hid hgl
      have b0 := CB.out 0 _ rfl W2 hgr
      clear hrow hq hrw hgr hgl HV
      have GW := Lib.hid G1.out
      by_cases hk : k = 0
      · subst hk
        have b2 := CB.out 2 _ rfl W2 HG2.out
        have b3 := CB.out 3 _ rfl W2 HG2.out
        go_upto_region 7 with fail
        go_cut [3, 6, 10] (fun s3 s6 s10 W3 => s3 = .slice A1 j c1 ∧ s6 = .pointer (some ⟨g, 0, none⟩) ∧ s10 = .int .i64 j ∧ W3.heap[g]? = some (.cells #[.int .i64 0, .int .i64 0, .int .i32 0, .int .u32 cl, .int .u64 rq] 30 (0, 0)) ∧ Grow wr W3)
        case first =>
          go_wp2_with (refine wpList_store_row rfl _ _ _ rfl g #[.int .i64 0, .int .i64 0, .int .i32 0, .int .u32 cl, .int .u64 rq] rfl rfl _ _ HR2.out (by kernel_rfl) rfl (unit_oc _ _ _ _ _) ?_)
          go_meet
          exact ⟨rfl, rfl, rfl, setRow_heap W2 g _ _ _ _ HR2.out, below_setRow HG2.out HGL.out _⟩
        case rest =>
          obtain ⟨rfl, rfl, rfl, hr3, hg3⟩ := hcut
          have G3 := Lib.hid (Grow.trans GW.out hg3)
          have q0 := cell_of_row wc g 0 _ _ (0, 0) hr3
          have q1 := cell_of_row wc g 1 _ _ (0, 0) hr3
          have q2 := cell_of_row wc g 2 _ _ (0, 0) hr3
          have q3 := cell_of_row wc g 3 _ _ (0, 0) hr3
          have q4 := cell_of_row wc g 4 _ _ (0, 0) hr3
          have O2 := Lib.hid (own_grow O1.out hg3)
          clear hr3 hg3 b0 b2 b3
          go_wp2_with (at_builtin; refine wpList_appU rfl (.tmp 35) (.tmp 37) rfl (w.heap.size + 1) _ j _ rfl (own_grow O2.out (Grow.alloc _ _)) (some ⟨wc.heap.size, 0, none⟩) 1 1 [⟨0, 0, 0, cl, rq⟩] rfl (lies_unit ⟨0, 0, 0, cl, rq⟩ rfl) (by omega) (by have := G3.out.size; simp at this; simp; omega) ?_; intro A3 c3 w3 own3 L3 bel3)
          have hb3 := bel3 _ _ (Grow.trans G3.out (Grow.alloc _ _)) (by simp)
          rw [show ([⟨0, 0, 0, cl, rq⟩] : List U) = [mkU 0 p cl rq j c] from rfl, ← unitsOf_snoc HC.out] at own3
          clear bel3 L3 q0 q1 q2 q3 q4
          go_wp2
          go_roundw
          case rel => exact ⟨j + 1, A3, c3, by omega, by go_num, rfl, own3, hb3⟩
          case measure => simp [intOf]; omega
      · have e1 : (k == 0) = false := by simp [hk]
        have q0 := cell_of_row W2 g 0 _ _ (0, 0) HR2.out
        have q1 := cell_of_row W2 g 1 _ _ (0, 0) HR2.out
        have q2 := cell_of_row W2 g 2 _ _ (0, 0) HR2.out
        have q3 := cell_of_row W2 g 3 _ _ (0, 0) HR2.out
        have q4 := cell_of_row W2 g 4 _ _ (0, 0) HR2.out
        have O2 := Lib.hid (own_grow O1.out HG2.out)
        have G3 := Lib.hid (Grow.trans GW.out HG2.out)
        go_wp2_with (at_builtin; refine wpList_appU rfl (.tmp 35) (.tmp 37) rfl (w.heap.size + 1) _ j _ rfl (own_grow O2.out (Grow.alloc _ _)) (some ⟨W2.heap.size, 0, none⟩) 1 1 [⟨k, q, c, cl, rq⟩] rfl (lies_unit ⟨k, q, c, cl, rq⟩ rfl) (by omega) (by have := G3.out.size; simp at this; simp; omega) ?_; intro A3 c3 w3 own3 L3 bel3)
        have hb3 := bel3 _ _ (Grow.trans G3.out (Grow.alloc _ _)) (by simp)
        have eu : (⟨k, q, c, cl, rq⟩ : U) = mkU k p cl rq j c := by unfold mkU; rw [if_neg hk, HS.out, ← IntWalk.i64_left, ← IntWalk.i64_left, HQ.out]
        rw [eu, ← unitsOf_snoc HC.out] at own3
        clear bel3 L3 q0 q1 q2 q3 q4 eu b0
        go_wp2
        go_roundw
        case rel => exact ⟨j + 1, A3, c3, by omega, by go_num, rfl, own3, hb3⟩
        case measure => simp [intOf]; omega
    · obtain rfl : j = n := by omega
      have e : cs.take j = cs := List.take_of_length_le (by have := HLN.out; omega)
      have O2 := Lib.hid (e ▸ O1.out)
      have G3 := Lib.hid (Grow.trans (Grow.alloc w _) G1.out)
      clear e
      go_wp2
      go_ret
      exact ⟨A1, c1, rfl, O2.out.mono (by omega), G3.out⟩
end Go.Proofs.Ytfpbmpgdpnpdjaa

