/-
  utf: the contract of first.
-/
import Derived.Test.YtbphdojjddnljaaDoorNext
namespace Go.Proofs.YtbphdojjddnljaaDoor
open Go.RowKit
set_option linter.unusedSimpArgs false

def d1c (l : List Nat) : Nat := match dec1 l with
  | some (c, _) => c
  | none => 0
def d1n (l : List Nat) : Nat := match dec1 l with
  | some (_, n) => n
  | none => 0
def FirstPost (l : List Nat) (w : World) (e : Ending) (w' : World) : Prop := e = .returned (.tuple #[.int .i32 (d1c l : Nat), .int .i64 (d1n l : Nat)]) ∧ Grow w w'
theorem dec1_at {l : List Nat} {k : Nat} (hk : k < 4) (hno : ∀ j, j < k → hit j l = false) (h : hit k l = true) : d1c l = val k l ∧ d1n l = k + 1 := by
  have e : dec1 l = some (val k l, k + 1) := by
    unfold dec1
    match k, hk with
    | 0, _ => rw [if_pos h]
    | 1, _ => rw [if_neg (by rw [hno 0 (by omega)]; decide), if_pos h]
    | 2, _ => rw [if_neg (by rw [hno 0 (by omega)]; decide), if_neg (by rw [hno 1 (by omega)]; decide), if_pos h]
    | 3, _ => rw [if_neg (by rw [hno 0 (by omega)]; decide), if_neg (by rw [hno 1 (by omega)]; decide), if_neg (by rw [hno 2 (by omega)]; decide), if_pos h]
  unfold d1c d1n
  rw [e]
  exact ⟨rfl, rfl⟩
theorem dec1_no {l : List Nat} (hno : ∀ j, j < 4 → hit j l = false) : d1c l = 0 ∧ d1n l = 0 := by
  have e : dec1 l = none := by
    unfold dec1
    rw [if_neg (by rw [hno 0 (by omega)]; decide), if_neg (by rw [hno 1 (by omega)]; decide), if_neg (by rw [hno 2 (by omega)]; decide), if_neg (by rw [hno 3 (by omega)]; decide)]
  unfold d1c d1n
  rw [e]
  exact ⟨rfl, rfl⟩
theorem no_next {l : List Nat} {k : Nat} (hno : ∀ j, j < k → hit j l = false) (h : hit k l = false) : ∀ j, j < k + 1 → hit j l = false := by
  intro j hj
  by_cases e : j = k
  · rw [e]; exact h
  · exact hno j (by omega)
theorem hit_cont {k x : Nat} {r : List Nat} (h : cont (r.take k) = false) : hit k (x :: r) = false := by simp only [hit, h, Bool.and_false, Bool.false_and]
theorem acc_snoc (c : Nat) (ys : List Nat) (y : Nat) : acc c (ys ++ [y]) = acc c ys * 64 + y % 64 := by simp [acc]
theorem cont_snoc (ys : List Nat) (y : Nat) : cont (ys ++ [y]) = (cont ys && decide (y / 64 = 2)) := by simp [cont]
theorem acc_lt (c : Nat) (ys : List Nat) (m : Nat) (hm : ys.length ≤ m) : acc c ys < (c + 1) * 64 ^ m := by
  induction m generalizing c ys with
  | zero =>
    have : ys = [] := List.eq_nil_of_length_eq_zero (by omega)
    subst this
    simp [acc]
  | succ m ih =>
    match ys with
    | [] =>
      simp only [acc, List.foldl_nil]
      have : 1 ≤ 64 ^ (m + 1) := Nat.pow_pos (by decide)
      have := Nat.mul_le_mul_left (c + 1) this
      omega
    | y :: ys =>
      have h := ih (c * 64 + y % 64) ys (by simpa using hm)
      have e : acc c (y :: ys) = acc (c * 64 + y % 64) ys := rfl
      rw [e, Nat.pow_succ]
      have h2 : c * 64 + y % 64 + 1 ≤ (c + 1) * 64 := by omega
      have h3 := Nat.mul_le_mul_right (64 ^ m) h2
      rw [Nat.mul_comm (64 ^ m) 64, ← Nat.mul_assoc]
      omega

set_option maxRecDepth 100000 in
theorem first_nil {A : Option Addr} {cap : Nat} {w : World} : Calls Tryd.prog 26 #[.slice A 0 cap] w (FirstPost [] w) := by
  have q : FirstPost [] w (.returned (.tuple #[.int .i32 0, .int .i64 0])) w := ⟨rfl, Grow.refl _⟩
  have HQ := Lib.hid q
  clear q
  go_enter Tryd.func26, Tryd.ntmps26
  go_wp2
  go_ret2
  exact HQ.out
set_option maxRecDepth 100000 in
set_option maxHeartbeats 4000000 in
theorem first_some {b off n cap x : Nat} {r : List Nat} {w : World} (hT : Tab w) (hL : Lies w 1 (some ⟨b, off, none⟩) n cap (byt (x :: r))) (hl : ∀ y ∈ x :: r, y < 256) :
    Calls Tryd.prog 26 #[.slice (some ⟨b, off, none⟩) n cap] w (FirstPost (x :: r) w) := by
  have hle := hL.le
  have hbig := hL.big
  have hln := hL.bytes_len
  have hx : x < 256 := hl x (by simp)
  have hn0 : 0 < n := by rw [List.length_cons] at hln; omega
  have HT := Lib.hid hT; have HL := Lib.hid hL; have HB := Lib.hid hl; have HLN := Lib.hid hln
  obtain ⟨F, hF⟩ : ∃ F, forms.toArray = F := ⟨_, rfl⟩
  have i0 : ∀ w : World, (Instr.index 54 (.agg F) (.int .i64 0)).run Tryd.prog w = .ok (.agg #[.int .i32 127, .int .u8 0, .int .u64 7]) w := fun w => by rw [← hF]; exact (idx_forms w).1
  have i1 : ∀ w : World, (Instr.index 54 (.agg F) (.int .i64 1)).run Tryd.prog w = .ok (.agg #[.int .i32 2047, .int .u8 192, .int .u64 5]) w := fun w => by rw [← hF]; exact (idx_forms w).2.1
  have i2 : ∀ w : World, (Instr.index 54 (.agg F) (.int .i64 2)).run Tryd.prog w = .ok (.agg #[.int .i32 65535, .int .u8 224, .int .u64 4]) w := fun w => by rw [← hF]; exact (idx_forms w).2.2.1
  have i3 : ∀ w : World, (Instr.index 54 (.agg F) (.int .i64 3)).run Tryd.prog w = .ok (.agg #[.int .i32 1114111, .int .u8 240, .int .u64 3]) w := fun w => by rw [← hF]; exact (idx_forms w).2.2.2
  have HF := Lib.hid hF
  have hc0 : w.cell? ⟨b, off, none⟩ = some (.int .u8 (x : Int)) := by have := hL.cells _ rfl 0 (.int .u8 (x : Int)) rfl; rwa [add_none, Nat.add_zero] at this
  have hC0 : ∀ W : World, Below w.heap.size w W → W.cell? ⟨b, off, none⟩ = some (.int .u8 (x : Int)) := fun W h => grow_cell hc0 h
  have nz : ((n : Int) == 0) = false := by simp; omega
  have HC0 := Lib.hid hC0
  clear hT hL hl hln hF hc0 hC0
  go_enter Tryd.func26, Tryd.ntmps26
  go_wp2_with (refine wpList_load_mid rfl 54 _ rfl 0 0 rfl forms _ HT.out Tryd.underlying54 rfl info_forms ?_; rw [HF.out])
  go_loopw [16] (fun i wr => ∃ k : Nat, k ≤ 4 ∧ i = .int .i64 k ∧ Hid (∀ j, j < k → hit j (x :: r) = false) ∧ Below w.heap.size w wr) (fun i _ => 4 - (intOf i).toNat)
  case atStart => exact ⟨0, by omega, rfl, fun j hj => by omega, Below.refl _ _⟩
  case round =>
    obtain ⟨k, hk, rfl, hno, hb⟩ := hrel
    have hx0 := HC0.out wr hb
    match k, hk with
    | 0, _ =>
      rw [show ((0 : Nat) : Int) = 0 from rfl]
      have cm1 : ∀ W : World, Grow (wr.alloc (.cells #[.int .i32 127, .int .u8 0, .int .u64 7] 53)) W → W.cell? ⟨wr.heap.size, 1, none⟩ = some (.int .u8 0) := fun W h => grow_cell (cell_of_row _ wr.heap.size 1 _ _ (0, 0) (heap_alloc_new wr _)) h
      have cm2 : ∀ W : World, Grow (wr.alloc (.cells #[.int .i32 127, .int .u8 0, .int .u64 7] 53)) W → W.cell? ⟨wr.heap.size, 2, none⟩ = some (.int .u64 7) := fun W h => grow_cell (cell_of_row _ wr.heap.size 2 _ _ (0, 0) (heap_alloc_new wr _)) h
      have cx : ∀ W : World, Grow (wr.alloc (.cells #[.int .i32 127, .int .u8 0, .int .u64 7] 53)) W → W.cell? ⟨b, off, none⟩ = some (.int .u8 (x : Int)) := fun W h => HC0.out W (then_ hb (Below.trans (Grow.alloc wr _) (Below.mono h (by simp))))
      by_cases hlead : x / 128 = 0
      · have e1 : ((x : Int) / 128 == 0) = true := by simp; omega
        have e2 : ((x : Int) / 128 != 0) = false := by simp; omega
        by_cases hcap : cap = 1
        · subst hcap
          obtain ⟨y0, hy0⟩ : ∃ y0, y0 = low 0 x := ⟨_, rfl⟩
          have y0l : y0 < 128 := by rw [hy0]; unfold low; simp only; omega
          have y0e : (x : Int) % 128 = (y0 : Int) := by rw [hy0]; unfold low; simp only; omega
          have y0m : bits .and .u8 (x : Int) 127 = (y0 : Int) := by
            have := u8_and_nat x 127 hx (by decide)
            rw [nat_mask7] at this
            rw [← y0e]
            exact this
          have y0w : wrap32 (y0 : Int) = (y0 : Int) := IntWalk.wrap32_in _ ⟨by omega, by omega⟩
          have ew1 : IntKind.u8.wrap 128 = 128 := by decide
          have HY0 := Lib.hid hy0
          clear hy0
          go_wp2_with fail
          refine Chain.start Nat (by kernel_rfl) (by kernel_rfl) (fun hg => ?_)
          repeat (first | (refine Chain.skip hg (fun t => by rfl) ?_; simp only [Act.put, List.setIfInBounds_toArray, List.set_cons_zero, List.set_cons_succ]) | (refine Chain.pure hg (X := ?_) (fun t W hw hN => ⟨by rfl, ?_⟩) ?_; rotate_left; (focus (go_simp <;> with_reducible rfl)); simp only [Act.put, List.setIfInBounds_toArray, List.set_cons_zero, List.set_cons_succ]))
          refine Chain.done (fun t W hw hN => ?_)
          have hbW := Below.trans (hb.alloc hb.size (.cells #[.int .i32 127, .int .u8 0, .int .u64 7] 53)) (Below.mono hw (by have := hb.size; simp; omega))
          clear hN hg
          have cm2' : ∀ V : World, Grow W V → V.cell? ⟨wr.heap.size, 2, none⟩ = some (.int .u64 7) := fun V h => cm2 V (hw.trans h)
          have cx' : ∀ V : World, Grow W V → V.cell? ⟨b, off, none⟩ = some (.int .u8 (x : Int)) := fun V h => cx V (hw.trans h)
          clear cm1 cm2 cx hw
          go_wp2_with fail
          refine Chain.start Nat (by kernel_rfl) (by kernel_rfl) (fun hg => ?_)
          repeat (first | (refine Chain.skip hg (fun t => by rfl) ?_; simp only [Act.put, List.setIfInBounds_toArray, List.set_cons_zero, List.set_cons_succ]) | (refine Chain.pure hg (X := ?_) (fun t W hw hN => ⟨by rfl, ?_⟩) ?_; rotate_left; (focus (go_simp <;> with_reducible rfl)); simp only [Act.put, List.setIfInBounds_toArray, List.set_cons_zero, List.set_cons_succ]))
          refine Chain.grow hg (fun g => .pointer (some ⟨g, 0, none⟩)) (fun g V => Box V g (.int .i32 0) ∧ W.heap.size ≤ g) (fun _ _ _ h k => ⟨h.1.grow k, h.2⟩) (fun _ => by rfl) (fun t W hw hN K hK => ?_) ?_
          · go_simp; exact hK.out _ _ (Grow.alloc _ _) ⟨Box.new _ _ _, hw.size⟩
          simp only [Act.put, List.setIfInBounds_toArray, List.set_cons_zero, List.set_cons_succ]
          refine Chain.tail (tail_of (by kernel_rfl)) (fun t V hv hN => ?_)
          have hbox := hN.get 9 rfl (by kernel_rfl)
          generalize t 9 = gc at *
          obtain ⟨hbc, hgc⟩ := hbox
          have q1 := hbc.cell
          have q2 := hbc.free
          have hgV := hbc.lt
          have hwgc : w.heap.size ≤ gc := Nat.le_trans hbW.size hgc
          have HBC := Lib.hid hbc
          have HBV := Lib.hid (Below.trans hbW (Below.mono hv hbW.size))
          clear hN hg cm2' cx' hbc hv hbW
          go_wp2_with fail
          have HB1 := Lib.hid (((HBC.out.set (.int .i32 (y0 : Int))).grow (Grow.alloc _ (.cells #[.bool true] 4))))
          have HB2 := Lib.hid (Box.new (V.setCell ⟨gc, 0, none⟩ (.int .i32 (y0 : Int))) (.bool true) 4)
          have hsz : (V.setCell ⟨gc, 0, none⟩ (.int .i32 (y0 : Int))).heap.size = V.heap.size := by simp
          have HB3 := Lib.hid ((HBV.out.setCell (p := ⟨gc, 0, none⟩) hwgc (.int .i32 (y0 : Int))).alloc (by rw [hsz]; exact HBV.out.size) (.cells #[.bool true] 4))
          have HSZ := Lib.hid hsz
          have hgo : w.heap.size ≤ V.heap.size := HBV.out.size
          clear hsz q1 q2
          generalize hgoV : V.heap.size = go at *
          have HB2' : Box ((V.setCell ⟨gc, 0, none⟩ (.int .i32 (y0 : Int))).alloc (.cells #[.bool true] 4)) go (.bool true) := by have h := HB2.out; rw [HSZ.out] at h; exact h
          have HB2'' := Lib.hid HB2'
          clear HB2 HB2' hgoV
          go_loopw [54] (fun i wz => ∃ j : Nat, j ≤ 0 ∧ i = .int .i64 j ∧ Box wz go (.bool (cont (r.take j))) ∧ Box wz gc (.int .i32 ((acc y0 (r.take j) : Nat) : Int)) ∧ Below w.heap.size w wz) (fun i _ => 0 - (intOf i).toNat)
          case atStart => exact ⟨0, by omega, rfl, by simpa [cont] using HB2''.out, by simpa [acc] using HB1.out, HB3.out⟩
          case round =>
            obtain ⟨j, hj, rfl, hbo, hbc, hbz⟩ := hrel
            by_cases hjk : j < 0
            · omega
            · obtain rfl : j = 0 := by omega
              have t1 := hbc.cell
              have hacc := acc_lt y0 (r.take 0) 0 (List.length_take_le _ _)
              have t2 := hbo.cell
              obtain ⟨a, ha⟩ : ∃ a, a = acc y0 (r.take 0) := ⟨_, rfl⟩
              rw [← ha] at t1 hbc hacc
              have HAA := Lib.hid ha
              clear ha
              cases hct : cont (r.take 0) with
              | false =>
                have hh : hit 0 (x :: r) = false := hit_cont hct
                have HNO := Lib.hid (no_next hno.out hh)
                rw [hct] at t2
                clear hct hno hh hbo
                go_wp2
                go_roundw
                case rel => exact ⟨1, by omega, rfl, HNO, hbz⟩
                case measure => simp [intOf]
              | true =>
                rw [hct] at t2
                obtain ⟨S, hS⟩ : ∃ S, sizeI (a : Int) = S := ⟨_, rfl⟩
                have HS := Lib.hid hS; have HCT := Lib.hid hct
                clear hS hct
                go_wp2_with fail
                refine (size_any (HT.out.same hbz)).mono ?_
                rw [HS.out]
                rintro e w10 ⟨rfl, g10⟩
                have t3 := (hbc.grow g10).cell
                have hb10 := then_ hbz g10
                clear g10 hbo hbc
                by_cases hSk : S = 1
                · have s1 : ((S : Int) == 1) = true := by simp; omega
                  have hh : hit 0 (x :: r) = true := by
                    have h1 := HS.out
                    have h2 := HCT.out
                    have h3 := HLN.out
                    have h4 := HAA.out
                    have h5 := HY0.out
                    rw [List.length_cons] at h3
                    simp only [hit, Bool.and_eq_true, decide_eq_true_eq, List.length_cons]
                    rw [← h5, ← h4]
                    exact ⟨⟨⟨by simp only [lead, decide_eq_true_eq]; exact hlead, by omega⟩, h2⟩, by omega⟩
                  have hd := dec1_at (by decide) hno.out hh
                  have hv : val 0 (x :: r) = a := by rw [HAA.out, HY0.out]; rfl
                  have q : FirstPost (x :: r) w (.returned (.tuple #[.int .i32 (a : Int), .int .i64 1])) w10 := ⟨by rw [hd.1, hd.2, hv]; rfl, hb10⟩
                  have HQ := Lib.hid q
                  clear q hd hv hh hSk hlead hno
                  go_wp2
                  go_ret2
                  exact HQ.out
                · have s1 : ((S : Int) == 1) = false := by simp; omega
                  have hh : hit 0 (x :: r) = false := by
                    have h1 := HS.out
                    have h4 := HAA.out
                    have h5 := HY0.out
                    simp only [hit, Bool.and_eq_false_iff, decide_eq_false_iff_not]
                    right
                    rw [← h5, ← h4]
                    omega
                  have HNO := Lib.hid (no_next hno.out hh)
                  clear hh hSk hlead hno
                  go_wp2
                  go_roundw
                  case rel => exact ⟨1, by omega, rfl, HNO, hb10⟩
                  case measure => simp [intOf]
        · skip
          obtain ⟨y0, hy0⟩ : ∃ y0, y0 = low 0 x := ⟨_, rfl⟩
          have y0l : y0 < 128 := by rw [hy0]; unfold low; simp only; omega
          have y0e : (x : Int) % 128 = (y0 : Int) := by rw [hy0]; unfold low; simp only; omega
          have y0m : bits .and .u8 (x : Int) 127 = (y0 : Int) := by
            have := u8_and_nat x 127 hx (by decide)
            rw [nat_mask7] at this
            rw [← y0e]
            exact this
          have y0w : wrap32 (y0 : Int) = (y0 : Int) := IntWalk.wrap32_in _ ⟨by omega, by omega⟩
          have ew1 : IntKind.u8.wrap 128 = 128 := by decide
          have HY0 := Lib.hid hy0
          clear hy0
          go_wp2_with fail
          refine Chain.start Nat (by kernel_rfl) (by kernel_rfl) (fun hg => ?_)
          repeat (first | (refine Chain.skip hg (fun t => by rfl) ?_; simp only [Act.put, List.setIfInBounds_toArray, List.set_cons_zero, List.set_cons_succ]) | (refine Chain.pure hg (X := ?_) (fun t W hw hN => ⟨by rfl, ?_⟩) ?_; rotate_left; (focus (go_simp <;> with_reducible rfl)); simp only [Act.put, List.setIfInBounds_toArray, List.set_cons_zero, List.set_cons_succ]))
          refine Chain.done (fun t W hw hN => ?_)
          have hbW := Below.trans (hb.alloc hb.size (.cells #[.int .i32 127, .int .u8 0, .int .u64 7] 53)) (Below.mono hw (by have := hb.size; simp; omega))
          clear hN hg
          have cm2' : ∀ V : World, Grow W V → V.cell? ⟨wr.heap.size, 2, none⟩ = some (.int .u64 7) := fun V h => cm2 V (hw.trans h)
          have cx' : ∀ V : World, Grow W V → V.cell? ⟨b, off, none⟩ = some (.int .u8 (x : Int)) := fun V h => cx V (hw.trans h)
          clear cm1 cm2 cx hw
          go_wp2_with fail
          refine Chain.start Nat (by kernel_rfl) (by kernel_rfl) (fun hg => ?_)
          repeat (first | (refine Chain.skip hg (fun t => by rfl) ?_; simp only [Act.put, List.setIfInBounds_toArray, List.set_cons_zero, List.set_cons_succ]) | (refine Chain.pure hg (X := ?_) (fun t W hw hN => ⟨by rfl, ?_⟩) ?_; rotate_left; (focus (go_simp <;> with_reducible rfl)); simp only [Act.put, List.setIfInBounds_toArray, List.set_cons_zero, List.set_cons_succ]))
          refine Chain.grow hg (fun g => .pointer (some ⟨g, 0, none⟩)) (fun g V => Box V g (.int .i32 0) ∧ W.heap.size ≤ g) (fun _ _ _ h k => ⟨h.1.grow k, h.2⟩) (fun _ => by rfl) (fun t W hw hN K hK => ?_) ?_
          · go_simp; exact hK.out _ _ (Grow.alloc _ _) ⟨Box.new _ _ _, hw.size⟩
          simp only [Act.put, List.setIfInBounds_toArray, List.set_cons_zero, List.set_cons_succ]
          refine Chain.tail (tail_of (by kernel_rfl)) (fun t V hv hN => ?_)
          have hbox := hN.get 9 rfl (by kernel_rfl)
          generalize t 9 = gc at *
          obtain ⟨hbc, hgc⟩ := hbox
          have q1 := hbc.cell
          have q2 := hbc.free
          have hgV := hbc.lt
          have hwgc : w.heap.size ≤ gc := Nat.le_trans hbW.size hgc
          have HBC := Lib.hid hbc
          have HBV := Lib.hid (Below.trans hbW (Below.mono hv hbW.size))
          clear hN hg cm2' cx' hbc hv hbW
          go_wp2_with fail
          have HB1 := Lib.hid (((HBC.out.set (.int .i32 (y0 : Int))).grow (Grow.alloc _ (.cells #[.bool true] 4))))
          have HB2 := Lib.hid (Box.new (V.setCell ⟨gc, 0, none⟩ (.int .i32 (y0 : Int))) (.bool true) 4)
          have hsz : (V.setCell ⟨gc, 0, none⟩ (.int .i32 (y0 : Int))).heap.size = V.heap.size := by simp
          have HB3 := Lib.hid ((HBV.out.setCell (p := ⟨gc, 0, none⟩) hwgc (.int .i32 (y0 : Int))).alloc (by rw [hsz]; exact HBV.out.size) (.cells #[.bool true] 4))
          have HSZ := Lib.hid hsz
          have hgo : w.heap.size ≤ V.heap.size := HBV.out.size
          clear hsz q1 q2
          generalize hgoV : V.heap.size = go at *
          have HB2' : Box ((V.setCell ⟨gc, 0, none⟩ (.int .i32 (y0 : Int))).alloc (.cells #[.bool true] 4)) go (.bool true) := by have h := HB2.out; rw [HSZ.out] at h; exact h
          have HB2'' := Lib.hid HB2'
          clear HB2 HB2' hgoV
          go_loopw [54] (fun i wz => ∃ j : Nat, j ≤ 0 ∧ i = .int .i64 j ∧ Box wz go (.bool (cont (r.take j))) ∧ Box wz gc (.int .i32 ((acc y0 (r.take j) : Nat) : Int)) ∧ Below w.heap.size w wz) (fun i _ => 0 - (intOf i).toNat)
          case atStart => exact ⟨0, by omega, rfl, by simpa [cont] using HB2''.out, by simpa [acc] using HB1.out, HB3.out⟩
          case round =>
            obtain ⟨j, hj, rfl, hbo, hbc, hbz⟩ := hrel
            by_cases hjk : j < 0
            · omega
            · obtain rfl : j = 0 := by omega
              have t1 := hbc.cell
              have hacc := acc_lt y0 (r.take 0) 0 (List.length_take_le _ _)
              have t2 := hbo.cell
              obtain ⟨a, ha⟩ : ∃ a, a = acc y0 (r.take 0) := ⟨_, rfl⟩
              rw [← ha] at t1 hbc hacc
              have HAA := Lib.hid ha
              clear ha
              cases hct : cont (r.take 0) with
              | false =>
                have hh : hit 0 (x :: r) = false := hit_cont hct
                have HNO := Lib.hid (no_next hno.out hh)
                rw [hct] at t2
                clear hct hno hh hbo
                go_wp2
                go_roundw
                case rel => exact ⟨1, by omega, rfl, HNO, hbz⟩
                case measure => simp [intOf]
              | true =>
                rw [hct] at t2
                obtain ⟨S, hS⟩ : ∃ S, sizeI (a : Int) = S := ⟨_, rfl⟩
                have HS := Lib.hid hS; have HCT := Lib.hid hct
                clear hS hct
                go_wp2_with fail
                refine (size_any (HT.out.same hbz)).mono ?_
                rw [HS.out]
                rintro e w10 ⟨rfl, g10⟩
                have t3 := (hbc.grow g10).cell
                have hb10 := then_ hbz g10
                clear g10 hbo hbc
                by_cases hSk : S = 1
                · have s1 : ((S : Int) == 1) = true := by simp; omega
                  have hh : hit 0 (x :: r) = true := by
                    have h1 := HS.out
                    have h2 := HCT.out
                    have h3 := HLN.out
                    have h4 := HAA.out
                    have h5 := HY0.out
                    rw [List.length_cons] at h3
                    simp only [hit, Bool.and_eq_true, decide_eq_true_eq, List.length_cons]
                    rw [← h5, ← h4]
                    exact ⟨⟨⟨by simp only [lead, decide_eq_true_eq]; exact hlead, by omega⟩, h2⟩, by omega⟩
                  have hd := dec1_at (by decide) hno.out hh
                  have hv : val 0 (x :: r) = a := by rw [HAA.out, HY0.out]; rfl
                  have q : FirstPost (x :: r) w (.returned (.tuple #[.int .i32 (a : Int), .int .i64 1])) w10 := ⟨by rw [hd.1, hd.2, hv]; rfl, hb10⟩
                  have HQ := Lib.hid q
                  clear q hd hv hh hSk hlead hno
                  go_wp2
                  go_ret2
                  exact HQ.out
                · have s1 : ((S : Int) == 1) = false := by simp; omega
                  have hh : hit 0 (x :: r) = false := by
                    have h1 := HS.out
                    have h4 := HAA.out
                    have h5 := HY0.out
                    simp only [hit, Bool.and_eq_false_iff, decide_eq_false_iff_not]
                    right
                    rw [← h5, ← h4]
                    omega
                  have HNO := Lib.hid (no_next hno.out hh)
                  clear hh hSk hlead hno
                  go_wp2
                  go_roundw
                  case rel => exact ⟨1, by omega, rfl, HNO, hb10⟩
                  case measure => simp [intOf]
      · have e1 : ((x : Int) / 128 == 0) = false := by simp; omega
        have e2 : ((x : Int) / 128 != 0) = true := by simp; omega
        have hh : hit 0 (x :: r) = false := by simp [hit, lead, hlead]
        have HNO := Lib.hid (no_next hno.out hh)
        clear hlead hno hh
        go_wp2_with fail
        refine Chain.start Nat (by kernel_rfl) (by kernel_rfl) (fun hg => ?_)
        repeat (first | (refine Chain.skip hg (fun t => by rfl) ?_; simp only [Act.put, List.setIfInBounds_toArray, List.set_cons_zero, List.set_cons_succ]) | (refine Chain.pure hg (X := ?_) (fun t W hw hN => ⟨by rfl, ?_⟩) ?_; rotate_left; (focus (go_simp <;> with_reducible rfl)); simp only [Act.put, List.setIfInBounds_toArray, List.set_cons_zero, List.set_cons_succ]))
        refine Chain.done (fun t W hw hN => ?_)
        have hbW := Below.trans (hb.alloc hb.size (.cells #[.int .i32 127, .int .u8 0, .int .u64 7] 53)) (Below.mono hw (by have := hb.size; simp; omega))
        clear hN hg cm1 cm2 cx
        go_wp2
        go_roundw
        case rel => exact ⟨1, by omega, rfl, HNO, hbW⟩
        case measure => simp [intOf]
    | 1, _ =>
      rw [show ((1 : Nat) : Int) = 1 from rfl]
      have cm1 : ∀ W : World, Grow (wr.alloc (.cells #[.int .i32 2047, .int .u8 192, .int .u64 5] 53)) W → W.cell? ⟨wr.heap.size, 1, none⟩ = some (.int .u8 192) := fun W h => grow_cell (cell_of_row _ wr.heap.size 1 _ _ (0, 0) (heap_alloc_new wr _)) h
      have cm2 : ∀ W : World, Grow (wr.alloc (.cells #[.int .i32 2047, .int .u8 192, .int .u64 5] 53)) W → W.cell? ⟨wr.heap.size, 2, none⟩ = some (.int .u64 5) := fun W h => grow_cell (cell_of_row _ wr.heap.size 2 _ _ (0, 0) (heap_alloc_new wr _)) h
      have cx : ∀ W : World, Grow (wr.alloc (.cells #[.int .i32 2047, .int .u8 192, .int .u64 5] 53)) W → W.cell? ⟨b, off, none⟩ = some (.int .u8 (x : Int)) := fun W h => HC0.out W (then_ hb (Below.trans (Grow.alloc wr _) (Below.mono h (by simp))))
      by_cases hlead : x / 32 = 6
      · have e1 : ((x : Int) / 32 == 6) = true := by simp; omega
        have e2 : ((x : Int) / 32 != 6) = false := by simp; omega
        by_cases hlen : n < 2
        · have hh : hit 1 (x :: r) = false := by
            have := HLN.out
            rw [List.length_cons] at this
            simp [hit]
            omega
          have HNO := Lib.hid (no_next hno.out hh)
          clear hlead hno hh
          go_wp2_with fail
          refine Chain.start Nat (by kernel_rfl) (by kernel_rfl) (fun hg => ?_)
          repeat (first | (refine Chain.skip hg (fun t => by rfl) ?_; simp only [Act.put, List.setIfInBounds_toArray, List.set_cons_zero, List.set_cons_succ]) | (refine Chain.pure hg (X := ?_) (fun t W hw hN => ⟨by rfl, ?_⟩) ?_; rotate_left; (focus (go_simp <;> with_reducible rfl)); simp only [Act.put, List.setIfInBounds_toArray, List.set_cons_zero, List.set_cons_succ]))
          refine Chain.done (fun t W hw hN => ?_)
          have hbW := Below.trans (hb.alloc hb.size (.cells #[.int .i32 2047, .int .u8 192, .int .u64 5] 53)) (Below.mono hw (by have := hb.size; simp; omega))
          clear hN hg cm1 cm2 cx
          go_wp2
          go_roundw
          case rel => exact ⟨2, by omega, rfl, HNO, hbW⟩
          case measure => simp [intOf]
        · have hlen2 : 2 ≤ n := by omega
          clear hlen
          have hcap : ¬ cap = 1 := by omega
          obtain ⟨y0, hy0⟩ : ∃ y0, y0 = low 1 x := ⟨_, rfl⟩
          have y0l : y0 < 32 := by rw [hy0]; unfold low; simp only; omega
          have y0e : (x : Int) % 32 = (y0 : Int) := by rw [hy0]; unfold low; simp only; omega
          have y0m : bits .and .u8 (x : Int) 31 = (y0 : Int) := by
            have := u8_and_nat x 31 hx (by decide)
            rw [nat_mask5] at this
            rw [← y0e]
            exact this
          have y0w : wrap32 (y0 : Int) = (y0 : Int) := IntWalk.wrap32_in _ ⟨by omega, by omega⟩
          have ew1 : IntKind.u8.wrap 32 = 32 := by decide
          have HY0 := Lib.hid hy0
          clear hy0
          go_wp2_with fail
          refine Chain.start Nat (by kernel_rfl) (by kernel_rfl) (fun hg => ?_)
          repeat (first | (refine Chain.skip hg (fun t => by rfl) ?_; simp only [Act.put, List.setIfInBounds_toArray, List.set_cons_zero, List.set_cons_succ]) | (refine Chain.pure hg (X := ?_) (fun t W hw hN => ⟨by rfl, ?_⟩) ?_; rotate_left; (focus (go_simp <;> with_reducible rfl)); simp only [Act.put, List.setIfInBounds_toArray, List.set_cons_zero, List.set_cons_succ]))
          refine Chain.done (fun t W hw hN => ?_)
          have hbW := Below.trans (hb.alloc hb.size (.cells #[.int .i32 2047, .int .u8 192, .int .u64 5] 53)) (Below.mono hw (by have := hb.size; simp; omega))
          clear hN hg
          have cm2' : ∀ V : World, Grow W V → V.cell? ⟨wr.heap.size, 2, none⟩ = some (.int .u64 5) := fun V h => cm2 V (hw.trans h)
          have cx' : ∀ V : World, Grow W V → V.cell? ⟨b, off, none⟩ = some (.int .u8 (x : Int)) := fun V h => cx V (hw.trans h)
          clear cm1 cm2 cx hw
          go_wp2_with fail
          refine Chain.start Nat (by kernel_rfl) (by kernel_rfl) (fun hg => ?_)
          repeat (first | (refine Chain.skip hg (fun t => by rfl) ?_; simp only [Act.put, List.setIfInBounds_toArray, List.set_cons_zero, List.set_cons_succ]) | (refine Chain.pure hg (X := ?_) (fun t W hw hN => ⟨by rfl, ?_⟩) ?_; rotate_left; (focus (go_simp <;> with_reducible rfl)); simp only [Act.put, List.setIfInBounds_toArray, List.set_cons_zero, List.set_cons_succ]))
          refine Chain.grow hg (fun g => .pointer (some ⟨g, 0, none⟩)) (fun g V => Box V g (.int .i32 0) ∧ W.heap.size ≤ g) (fun _ _ _ h k => ⟨h.1.grow k, h.2⟩) (fun _ => by rfl) (fun t W hw hN K hK => ?_) ?_
          · go_simp; exact hK.out _ _ (Grow.alloc _ _) ⟨Box.new _ _ _, hw.size⟩
          simp only [Act.put, List.setIfInBounds_toArray, List.set_cons_zero, List.set_cons_succ]
          refine Chain.tail (tail_of (by kernel_rfl)) (fun t V hv hN => ?_)
          have hbox := hN.get 9 rfl (by kernel_rfl)
          generalize t 9 = gc at *
          obtain ⟨hbc, hgc⟩ := hbox
          have q1 := hbc.cell
          have q2 := hbc.free
          have hgV := hbc.lt
          have hwgc : w.heap.size ≤ gc := Nat.le_trans hbW.size hgc
          have HBC := Lib.hid hbc
          have HBV := Lib.hid (Below.trans hbW (Below.mono hv hbW.size))
          clear hN hg cm2' cx' hbc hv hbW
          go_wp2_with fail
          have HB1 := Lib.hid (((HBC.out.set (.int .i32 (y0 : Int))).grow (Grow.alloc _ (.cells #[.bool true] 4))))
          have HB2 := Lib.hid (Box.new (V.setCell ⟨gc, 0, none⟩ (.int .i32 (y0 : Int))) (.bool true) 4)
          have hsz : (V.setCell ⟨gc, 0, none⟩ (.int .i32 (y0 : Int))).heap.size = V.heap.size := by simp
          have HB3 := Lib.hid ((HBV.out.setCell (p := ⟨gc, 0, none⟩) hwgc (.int .i32 (y0 : Int))).alloc (by rw [hsz]; exact HBV.out.size) (.cells #[.bool true] 4))
          have HSZ := Lib.hid hsz
          have hgo : w.heap.size ≤ V.heap.size := HBV.out.size
          clear hsz q1 q2
          generalize hgoV : V.heap.size = go at *
          have HB2' : Box ((V.setCell ⟨gc, 0, none⟩ (.int .i32 (y0 : Int))).alloc (.cells #[.bool true] 4)) go (.bool true) := by have h := HB2.out; rw [HSZ.out] at h; exact h
          have HB2'' := Lib.hid HB2'
          clear HB2 HB2' hgoV
          go_loopw [54] (fun i wz => ∃ j : Nat, j ≤ 1 ∧ i = .int .i64 j ∧ Box wz go (.bool (cont (r.take j))) ∧ Box wz gc (.int .i32 ((acc y0 (r.take j) : Nat) : Int)) ∧ Below w.heap.size w wz) (fun i _ => 1 - (intOf i).toNat)
          case atStart => exact ⟨0, by omega, rfl, by simpa [cont] using HB2''.out, by simpa [acc] using HB1.out, HB3.out⟩
          case round =>
            obtain ⟨j, hj, rfl, hbo, hbc, hbz⟩ := hrel
            by_cases hjk : j < 1
            · have hlr := HLN.out
              rw [List.length_cons] at hlr
              obtain ⟨y, hy⟩ : ∃ y, r[j]? = some y := ⟨_, List.getElem?_eq_getElem (by omega)⟩
              have hyb : y < 256 := HB.out y (List.mem_cons_of_mem _ (List.mem_of_getElem? hy))
              have hcy := (HL.out.below hbz (Nat.le_refl _)).cells _ rfl (1 + j) (.int .u8 (y : Int)) (by simp [byt, Nat.add_comm 1 j, hy])
              rw [add_none, ← Nat.add_assoc] at hcy
              have ht : r.take (j + 1) = r.take j ++ [y] := by rw [List.take_add_one, hy]; rfl
              have ha := acc_lt y0 (r.take j) 2 (by rw [List.length_take]; omega)
              have hne : go ≠ gc := by omega
              have HTT := Lib.hid ht; have HNE := Lib.hid hne
              have j0 : (0 : Int) ≤ (j : Int) := by omega
              clear hlr hy ht hne
              go_wp2_with fail
              refine (next_any hbo hbc HNE.out hyb (by omega)).mono ?_
              rw [← cont_snoc, ← acc_snoc, ← HTT.out]
              rintro e w9 ⟨rfl, hbo', hbc', hbel⟩
              have hb9 := hbel _ _ hbz hgo hwgc
              clear hbel hbo hbc hbz hcy
              go_wp2
              go_roundw
              case rel => exact ⟨j + 1, by omega, by go_num, hbo', hbc', hb9⟩
              case measure => simp [intOf]; omega
            · obtain rfl : j = 1 := by omega
              have t1 := hbc.cell
              have hacc := acc_lt y0 (r.take 1) 1 (List.length_take_le _ _)
              have t2 := hbo.cell
              obtain ⟨a, ha⟩ : ∃ a, a = acc y0 (r.take 1) := ⟨_, rfl⟩
              rw [← ha] at t1 hbc hacc
              have HAA := Lib.hid ha
              clear ha
              cases hct : cont (r.take 1) with
              | false =>
                have hh : hit 1 (x :: r) = false := hit_cont hct
                have HNO := Lib.hid (no_next hno.out hh)
                rw [hct] at t2
                clear hct hno hh hbo
                go_wp2
                go_roundw
                case rel => exact ⟨2, by omega, rfl, HNO, hbz⟩
                case measure => simp [intOf]
              | true =>
                rw [hct] at t2
                obtain ⟨S, hS⟩ : ∃ S, sizeI (a : Int) = S := ⟨_, rfl⟩
                have HS := Lib.hid hS; have HCT := Lib.hid hct
                clear hS hct
                go_wp2_with fail
                refine (size_any (HT.out.same hbz)).mono ?_
                rw [HS.out]
                rintro e w10 ⟨rfl, g10⟩
                have t3 := (hbc.grow g10).cell
                have hb10 := then_ hbz g10
                clear g10 hbo hbc
                by_cases hSk : S = 2
                · have s1 : ((S : Int) == 2) = true := by simp; omega
                  have hh : hit 1 (x :: r) = true := by
                    have h1 := HS.out
                    have h2 := HCT.out
                    have h3 := HLN.out
                    have h4 := HAA.out
                    have h5 := HY0.out
                    rw [List.length_cons] at h3
                    simp only [hit, Bool.and_eq_true, decide_eq_true_eq, List.length_cons]
                    rw [← h5, ← h4]
                    exact ⟨⟨⟨by simp only [lead, decide_eq_true_eq]; exact hlead, by omega⟩, h2⟩, by omega⟩
                  have hd := dec1_at (by decide) hno.out hh
                  have hv : val 1 (x :: r) = a := by rw [HAA.out, HY0.out]; rfl
                  have q : FirstPost (x :: r) w (.returned (.tuple #[.int .i32 (a : Int), .int .i64 2])) w10 := ⟨by rw [hd.1, hd.2, hv]; rfl, hb10⟩
                  have HQ := Lib.hid q
                  clear q hd hv hh hSk hlead hno
                  go_wp2
                  go_ret2
                  exact HQ.out
                · have s1 : ((S : Int) == 2) = false := by simp; omega
                  have hh : hit 1 (x :: r) = false := by
                    have h1 := HS.out
                    have h4 := HAA.out
                    have h5 := HY0.out
                    simp only [hit, Bool.and_eq_false_iff, decide_eq_false_iff_not]
                    right
                    rw [← h5, ← h4]
                    omega
                  have HNO := Lib.hid (no_next hno.out hh)
                  clear hh hSk hlead hno
                  go_wp2
                  go_roundw
                  case rel => exact ⟨2, by omega, rfl, HNO, hb10⟩
                  case measure => simp [intOf]
      · have e1 : ((x : Int) / 32 == 6) = false := by simp; omega
        have e2 : ((x : Int) / 32 != 6) = true := by simp; omega
        have hh : hit 1 (x :: r) = false := by simp [hit, lead, hlead]
        have HNO := Lib.hid (no_next hno.out hh)
        clear hlead hno hh
        go_wp2_with fail
        refine Chain.start Nat (by kernel_rfl) (by kernel_rfl) (fun hg => ?_)
        repeat (first | (refine Chain.skip hg (fun t => by rfl) ?_; simp only [Act.put, List.setIfInBounds_toArray, List.set_cons_zero, List.set_cons_succ]) | (refine Chain.pure hg (X := ?_) (fun t W hw hN => ⟨by rfl, ?_⟩) ?_; rotate_left; (focus (go_simp <;> with_reducible rfl)); simp only [Act.put, List.setIfInBounds_toArray, List.set_cons_zero, List.set_cons_succ]))
        refine Chain.done (fun t W hw hN => ?_)
        have hbW := Below.trans (hb.alloc hb.size (.cells #[.int .i32 2047, .int .u8 192, .int .u64 5] 53)) (Below.mono hw (by have := hb.size; simp; omega))
        clear hN hg cm1 cm2 cx
        go_wp2
        go_roundw
        case rel => exact ⟨2, by omega, rfl, HNO, hbW⟩
        case measure => simp [intOf]
    | 2, _ =>
      rw [show ((2 : Nat) : Int) = 2 from rfl]
      have cm1 : ∀ W : World, Grow (wr.alloc (.cells #[.int .i32 65535, .int .u8 224, .int .u64 4] 53)) W → W.cell? ⟨wr.heap.size, 1, none⟩ = some (.int .u8 224) := fun W h => grow_cell (cell_of_row _ wr.heap.size 1 _ _ (0, 0) (heap_alloc_new wr _)) h
      have cm2 : ∀ W : World, Grow (wr.alloc (.cells #[.int .i32 65535, .int .u8 224, .int .u64 4] 53)) W → W.cell? ⟨wr.heap.size, 2, none⟩ = some (.int .u64 4) := fun W h => grow_cell (cell_of_row _ wr.heap.size 2 _ _ (0, 0) (heap_alloc_new wr _)) h
      have cx : ∀ W : World, Grow (wr.alloc (.cells #[.int .i32 65535, .int .u8 224, .int .u64 4] 53)) W → W.cell? ⟨b, off, none⟩ = some (.int .u8 (x : Int)) := fun W h => HC0.out W (then_ hb (Below.trans (Grow.alloc wr _) (Below.mono h (by simp))))
      by_cases hlead : x / 16 = 14
      · have e1 : ((x : Int) / 16 == 14) = true := by simp; omega
        have e2 : ((x : Int) / 16 != 14) = false := by simp; omega
        by_cases hlen : n < 3
        · have hh : hit 2 (x :: r) = false := by
            have := HLN.out
            rw [List.length_cons] at this
            simp [hit]
            omega
          have HNO := Lib.hid (no_next hno.out hh)
          clear hlead hno hh
          go_wp2_with fail
          refine Chain.start Nat (by kernel_rfl) (by kernel_rfl) (fun hg => ?_)
          repeat (first | (refine Chain.skip hg (fun t => by rfl) ?_; simp only [Act.put, List.setIfInBounds_toArray, List.set_cons_zero, List.set_cons_succ]) | (refine Chain.pure hg (X := ?_) (fun t W hw hN => ⟨by rfl, ?_⟩) ?_; rotate_left; (focus (go_simp <;> with_reducible rfl)); simp only [Act.put, List.setIfInBounds_toArray, List.set_cons_zero, List.set_cons_succ]))
          refine Chain.done (fun t W hw hN => ?_)
          have hbW := Below.trans (hb.alloc hb.size (.cells #[.int .i32 65535, .int .u8 224, .int .u64 4] 53)) (Below.mono hw (by have := hb.size; simp; omega))
          clear hN hg cm1 cm2 cx
          go_wp2
          go_roundw
          case rel => exact ⟨3, by omega, rfl, HNO, hbW⟩
          case measure => simp [intOf]
        · have hlen2 : 3 ≤ n := by omega
          clear hlen
          have hcap : ¬ cap = 1 := by omega
          obtain ⟨y0, hy0⟩ : ∃ y0, y0 = low 2 x := ⟨_, rfl⟩
          have y0l : y0 < 16 := by rw [hy0]; unfold low; simp only; omega
          have y0e : (x : Int) % 16 = (y0 : Int) := by rw [hy0]; unfold low; simp only; omega
          have y0m : bits .and .u8 (x : Int) 15 = (y0 : Int) := by
            have := u8_and_nat x 15 hx (by decide)
            rw [nat_mask4] at this
            rw [← y0e]
            exact this
          have y0w : wrap32 (y0 : Int) = (y0 : Int) := IntWalk.wrap32_in _ ⟨by omega, by omega⟩
          have ew1 : IntKind.u8.wrap 16 = 16 := by decide
          have HY0 := Lib.hid hy0
          clear hy0
          go_wp2_with fail
          refine Chain.start Nat (by kernel_rfl) (by kernel_rfl) (fun hg => ?_)
          repeat (first | (refine Chain.skip hg (fun t => by rfl) ?_; simp only [Act.put, List.setIfInBounds_toArray, List.set_cons_zero, List.set_cons_succ]) | (refine Chain.pure hg (X := ?_) (fun t W hw hN => ⟨by rfl, ?_⟩) ?_; rotate_left; (focus (go_simp <;> with_reducible rfl)); simp only [Act.put, List.setIfInBounds_toArray, List.set_cons_zero, List.set_cons_succ]))
          refine Chain.done (fun t W hw hN => ?_)
          have hbW := Below.trans (hb.alloc hb.size (.cells #[.int .i32 65535, .int .u8 224, .int .u64 4] 53)) (Below.mono hw (by have := hb.size; simp; omega))
          clear hN hg
          have cm2' : ∀ V : World, Grow W V → V.cell? ⟨wr.heap.size, 2, none⟩ = some (.int .u64 4) := fun V h => cm2 V (hw.trans h)
          have cx' : ∀ V : World, Grow W V → V.cell? ⟨b, off, none⟩ = some (.int .u8 (x : Int)) := fun V h => cx V (hw.trans h)
          clear cm1 cm2 cx hw
          go_wp2_with fail
          refine Chain.start Nat (by kernel_rfl) (by kernel_rfl) (fun hg => ?_)
          repeat (first | (refine Chain.skip hg (fun t => by rfl) ?_; simp only [Act.put, List.setIfInBounds_toArray, List.set_cons_zero, List.set_cons_succ]) | (refine Chain.pure hg (X := ?_) (fun t W hw hN => ⟨by rfl, ?_⟩) ?_; rotate_left; (focus (go_simp <;> with_reducible rfl)); simp only [Act.put, List.setIfInBounds_toArray, List.set_cons_zero, List.set_cons_succ]))
          refine Chain.grow hg (fun g => .pointer (some ⟨g, 0, none⟩)) (fun g V => Box V g (.int .i32 0) ∧ W.heap.size ≤ g) (fun _ _ _ h k => ⟨h.1.grow k, h.2⟩) (fun _ => by rfl) (fun t W hw hN K hK => ?_) ?_
          · go_simp; exact hK.out _ _ (Grow.alloc _ _) ⟨Box.new _ _ _, hw.size⟩
          simp only [Act.put, List.setIfInBounds_toArray, List.set_cons_zero, List.set_cons_succ]
          refine Chain.tail (tail_of (by kernel_rfl)) (fun t V hv hN => ?_)
          have hbox := hN.get 9 rfl (by kernel_rfl)
          generalize t 9 = gc at *
          obtain ⟨hbc, hgc⟩ := hbox
          have q1 := hbc.cell
          have q2 := hbc.free
          have hgV := hbc.lt
          have hwgc : w.heap.size ≤ gc := Nat.le_trans hbW.size hgc
          have HBC := Lib.hid hbc
          have HBV := Lib.hid (Below.trans hbW (Below.mono hv hbW.size))
          clear hN hg cm2' cx' hbc hv hbW
          go_wp2_with fail
          have HB1 := Lib.hid (((HBC.out.set (.int .i32 (y0 : Int))).grow (Grow.alloc _ (.cells #[.bool true] 4))))
          have HB2 := Lib.hid (Box.new (V.setCell ⟨gc, 0, none⟩ (.int .i32 (y0 : Int))) (.bool true) 4)
          have hsz : (V.setCell ⟨gc, 0, none⟩ (.int .i32 (y0 : Int))).heap.size = V.heap.size := by simp
          have HB3 := Lib.hid ((HBV.out.setCell (p := ⟨gc, 0, none⟩) hwgc (.int .i32 (y0 : Int))).alloc (by rw [hsz]; exact HBV.out.size) (.cells #[.bool true] 4))
          have HSZ := Lib.hid hsz
          have hgo : w.heap.size ≤ V.heap.size := HBV.out.size
          clear hsz q1 q2
          generalize hgoV : V.heap.size = go at *
          have HB2' : Box ((V.setCell ⟨gc, 0, none⟩ (.int .i32 (y0 : Int))).alloc (.cells #[.bool true] 4)) go (.bool true) := by have h := HB2.out; rw [HSZ.out] at h; exact h
          have HB2'' := Lib.hid HB2'
          clear HB2 HB2' hgoV
          go_loopw [54] (fun i wz => ∃ j : Nat, j ≤ 2 ∧ i = .int .i64 j ∧ Box wz go (.bool (cont (r.take j))) ∧ Box wz gc (.int .i32 ((acc y0 (r.take j) : Nat) : Int)) ∧ Below w.heap.size w wz) (fun i _ => 2 - (intOf i).toNat)
          case atStart => exact ⟨0, by omega, rfl, by simpa [cont] using HB2''.out, by simpa [acc] using HB1.out, HB3.out⟩
          case round =>
            obtain ⟨j, hj, rfl, hbo, hbc, hbz⟩ := hrel
            by_cases hjk : j < 2
            · have hlr := HLN.out
              rw [List.length_cons] at hlr
              obtain ⟨y, hy⟩ : ∃ y, r[j]? = some y := ⟨_, List.getElem?_eq_getElem (by omega)⟩
              have hyb : y < 256 := HB.out y (List.mem_cons_of_mem _ (List.mem_of_getElem? hy))
              have hcy := (HL.out.below hbz (Nat.le_refl _)).cells _ rfl (1 + j) (.int .u8 (y : Int)) (by simp [byt, Nat.add_comm 1 j, hy])
              rw [add_none, ← Nat.add_assoc] at hcy
              have ht : r.take (j + 1) = r.take j ++ [y] := by rw [List.take_add_one, hy]; rfl
              have ha := acc_lt y0 (r.take j) 2 (by rw [List.length_take]; omega)
              have hne : go ≠ gc := by omega
              have HTT := Lib.hid ht; have HNE := Lib.hid hne
              have j0 : (0 : Int) ≤ (j : Int) := by omega
              clear hlr hy ht hne
              go_wp2_with fail
              refine (next_any hbo hbc HNE.out hyb (by omega)).mono ?_
              rw [← cont_snoc, ← acc_snoc, ← HTT.out]
              rintro e w9 ⟨rfl, hbo', hbc', hbel⟩
              have hb9 := hbel _ _ hbz hgo hwgc
              clear hbel hbo hbc hbz hcy
              go_wp2
              go_roundw
              case rel => exact ⟨j + 1, by omega, by go_num, hbo', hbc', hb9⟩
              case measure => simp [intOf]; omega
            · obtain rfl : j = 2 := by omega
              have t1 := hbc.cell
              have hacc := acc_lt y0 (r.take 2) 2 (List.length_take_le _ _)
              have t2 := hbo.cell
              obtain ⟨a, ha⟩ : ∃ a, a = acc y0 (r.take 2) := ⟨_, rfl⟩
              rw [← ha] at t1 hbc hacc
              have HAA := Lib.hid ha
              clear ha
              cases hct : cont (r.take 2) with
              | false =>
                have hh : hit 2 (x :: r) = false := hit_cont hct
                have HNO := Lib.hid (no_next hno.out hh)
                rw [hct] at t2
                clear hct hno hh hbo
                go_wp2
                go_roundw
                case rel => exact ⟨3, by omega, rfl, HNO, hbz⟩
                case measure => simp [intOf]
              | true =>
                rw [hct] at t2
                obtain ⟨S, hS⟩ : ∃ S, sizeI (a : Int) = S := ⟨_, rfl⟩
                have HS := Lib.hid hS; have HCT := Lib.hid hct
                clear hS hct
                go_wp2_with fail
                refine (size_any (HT.out.same hbz)).mono ?_
                rw [HS.out]
                rintro e w10 ⟨rfl, g10⟩
                have t3 := (hbc.grow g10).cell
                have hb10 := then_ hbz g10
                clear g10 hbo hbc
                by_cases hSk : S = 3
                · have s1 : ((S : Int) == 3) = true := by simp; omega
                  have hh : hit 2 (x :: r) = true := by
                    have h1 := HS.out
                    have h2 := HCT.out
                    have h3 := HLN.out
                    have h4 := HAA.out
                    have h5 := HY0.out
                    rw [List.length_cons] at h3
                    simp only [hit, Bool.and_eq_true, decide_eq_true_eq, List.length_cons]
                    rw [← h5, ← h4]
                    exact ⟨⟨⟨by simp only [lead, decide_eq_true_eq]; exact hlead, by omega⟩, h2⟩, by omega⟩
                  have hd := dec1_at (by decide) hno.out hh
                  have hv : val 2 (x :: r) = a := by rw [HAA.out, HY0.out]; rfl
                  have q : FirstPost (x :: r) w (.returned (.tuple #[.int .i32 (a : Int), .int .i64 3])) w10 := ⟨by rw [hd.1, hd.2, hv]; rfl, hb10⟩
                  have HQ := Lib.hid q
                  clear q hd hv hh hSk hlead hno
                  go_wp2
                  go_ret2
                  exact HQ.out
                · have s1 : ((S : Int) == 3) = false := by simp; omega
                  have hh : hit 2 (x :: r) = false := by
                    have h1 := HS.out
                    have h4 := HAA.out
                    have h5 := HY0.out
                    simp only [hit, Bool.and_eq_false_iff, decide_eq_false_iff_not]
                    right
                    rw [← h5, ← h4]
                    omega
                  have HNO := Lib.hid (no_next hno.out hh)
                  clear hh hSk hlead hno
                  go_wp2
                  go_roundw
                  case rel => exact ⟨3, by omega, rfl, HNO, hb10⟩
                  case measure => simp [intOf]
      · have e1 : ((x : Int) / 16 == 14) = false := by simp; omega
        have e2 : ((x : Int) / 16 != 14) = true := by simp; omega
        have hh : hit 2 (x :: r) = false := by simp [hit, lead, hlead]
        have HNO := Lib.hid (no_next hno.out hh)
        clear hlead hno hh
        go_wp2_with fail
        refine Chain.start Nat (by kernel_rfl) (by kernel_rfl) (fun hg => ?_)
        repeat (first | (refine Chain.skip hg (fun t => by rfl) ?_; simp only [Act.put, List.setIfInBounds_toArray, List.set_cons_zero, List.set_cons_succ]) | (refine Chain.pure hg (X := ?_) (fun t W hw hN => ⟨by rfl, ?_⟩) ?_; rotate_left; (focus (go_simp <;> with_reducible rfl)); simp only [Act.put, List.setIfInBounds_toArray, List.set_cons_zero, List.set_cons_succ]))
        refine Chain.done (fun t W hw hN => ?_)
        have hbW := Below.trans (hb.alloc hb.size (.cells #[.int .i32 65535, .int .u8 224, .int .u64 4] 53)) (Below.mono hw (by have := hb.size; simp; omega))
        clear hN hg cm1 cm2 cx
        go_wp2
        go_roundw
        case rel => exact ⟨3, by omega, rfl, HNO, hbW⟩
        case measure => simp [intOf]
    | 3, _ =>
      rw [show ((3 : Nat) : Int) = 3 from rfl]
      have cm1 : ∀ W : World, Grow (wr.alloc (.cells #[.int .i32 1114111, .int .u8 240, .int .u64 3] 53)) W → W.cell? ⟨wr.heap.size, 1, none⟩ = some (.int .u8 240) := fun W h => grow_cell (cell_of_row _ wr.heap.size 1 _ _ (0, 0) (heap_alloc_new wr _)) h
      have cm2 : ∀ W : World, Grow (wr.alloc (.cells #[.int .i32 1114111, .int .u8 240, .int .u64 3] 53)) W → W.cell? ⟨wr.heap.size, 2, none⟩ = some (.int .u64 3) := fun W h => grow_cell (cell_of_row _ wr.heap.size 2 _ _ (0, 0) (heap_alloc_new wr _)) h
      have cx : ∀ W : World, Grow (wr.alloc (.cells #[.int .i32 1114111, .int .u8 240, .int .u64 3] 53)) W → W.cell? ⟨b, off, none⟩ = some (.int .u8 (x : Int)) := fun W h => HC0.out W (then_ hb (Below.trans (Grow.alloc wr _) (Below.mono h (by simp))))
      by_cases hlead : x / 8 = 30
      · have e1 : ((x : Int) / 8 == 30) = true := by simp; omega
        have e2 : ((x : Int) / 8 != 30) = false := by simp; omega
        by_cases hlen : n < 4
        · have hh : hit 3 (x :: r) = false := by
            have := HLN.out
            rw [List.length_cons] at this
            simp [hit]
            omega
          have HNO := Lib.hid (no_next hno.out hh)
          clear hlead hno hh
          go_wp2_with fail
          refine Chain.start Nat (by kernel_rfl) (by kernel_rfl) (fun hg => ?_)
          repeat (first | (refine Chain.skip hg (fun t => by rfl) ?_; simp only [Act.put, List.setIfInBounds_toArray, List.set_cons_zero, List.set_cons_succ]) | (refine Chain.pure hg (X := ?_) (fun t W hw hN => ⟨by rfl, ?_⟩) ?_; rotate_left; (focus (go_simp <;> with_reducible rfl)); simp only [Act.put, List.setIfInBounds_toArray, List.set_cons_zero, List.set_cons_succ]))
          refine Chain.done (fun t W hw hN => ?_)
          have hbW := Below.trans (hb.alloc hb.size (.cells #[.int .i32 1114111, .int .u8 240, .int .u64 3] 53)) (Below.mono hw (by have := hb.size; simp; omega))
          clear hN hg cm1 cm2 cx
          go_wp2
          go_roundw
          case rel => exact ⟨4, by omega, rfl, HNO, hbW⟩
          case measure => simp [intOf]
        · have hlen2 : 4 ≤ n := by omega
          clear hlen
          have hcap : ¬ cap = 1 := by omega
          obtain ⟨y0, hy0⟩ : ∃ y0, y0 = low 3 x := ⟨_, rfl⟩
          have y0l : y0 < 8 := by rw [hy0]; unfold low; simp only; omega
          have y0e : (x : Int) % 8 = (y0 : Int) := by rw [hy0]; unfold low; simp only; omega
          have y0m : bits .and .u8 (x : Int) 7 = (y0 : Int) := by
            have := u8_and_nat x 7 hx (by decide)
            rw [nat_mask3] at this
            rw [← y0e]
            exact this
          have y0w : wrap32 (y0 : Int) = (y0 : Int) := IntWalk.wrap32_in _ ⟨by omega, by omega⟩
          have ew1 : IntKind.u8.wrap 8 = 8 := by decide
          have HY0 := Lib.hid hy0
          clear hy0
          go_wp2_with fail
          refine Chain.start Nat (by kernel_rfl) (by kernel_rfl) (fun hg => ?_)
          repeat (first | (refine Chain.skip hg (fun t => by rfl) ?_; simp only [Act.put, List.setIfInBounds_toArray, List.set_cons_zero, List.set_cons_succ]) | (refine Chain.pure hg (X := ?_) (fun t W hw hN => ⟨by rfl, ?_⟩) ?_; rotate_left; (focus (go_simp <;> with_reducible rfl)); simp only [Act.put, List.setIfInBounds_toArray, List.set_cons_zero, List.set_cons_succ]))
          refine Chain.done (fun t W hw hN => ?_)
          have hbW := Below.trans (hb.alloc hb.size (.cells #[.int .i32 1114111, .int .u8 240, .int .u64 3] 53)) (Below.mono hw (by have := hb.size; simp; omega))
          clear hN hg
          have cm2' : ∀ V : World, Grow W V → V.cell? ⟨wr.heap.size, 2, none⟩ = some (.int .u64 3) := fun V h => cm2 V (hw.trans h)
          have cx' : ∀ V : World, Grow W V → V.cell? ⟨b, off, none⟩ = some (.int .u8 (x : Int)) := fun V h => cx V (hw.trans h)
          clear cm1 cm2 cx hw
          go_wp2_with fail
          refine Chain.start Nat (by kernel_rfl) (by kernel_rfl) (fun hg => ?_)
          repeat (first | (refine Chain.skip hg (fun t => by rfl) ?_; simp only [Act.put, List.setIfInBounds_toArray, List.set_cons_zero, List.set_cons_succ]) | (refine Chain.pure hg (X := ?_) (fun t W hw hN => ⟨by rfl, ?_⟩) ?_; rotate_left; (focus (go_simp <;> with_reducible rfl)); simp only [Act.put, List.setIfInBounds_toArray, List.set_cons_zero, List.set_cons_succ]))
          refine Chain.grow hg (fun g => .pointer (some ⟨g, 0, none⟩)) (fun g V => Box V g (.int .i32 0) ∧ W.heap.size ≤ g) (fun _ _ _ h k => ⟨h.1.grow k, h.2⟩) (fun _ => by rfl) (fun t W hw hN K hK => ?_) ?_
          · go_simp; exact hK.out _ _ (Grow.alloc _ _) ⟨Box.new _ _ _, hw.size⟩
          simp only [Act.put, List.setIfInBounds_toArray, List.set_cons_zero, List.set_cons_succ]
          refine Chain.tail (tail_of (by kernel_rfl)) (fun t V hv hN => ?_)
          have hbox := hN.get 9 rfl (by kernel_rfl)
          generalize t 9 = gc at *
          obtain ⟨hbc, hgc⟩ := hbox
          have q1 := hbc.cell
          have q2 := hbc.free
          have hgV := hbc.lt
          have hwgc : w.heap.size ≤ gc := Nat.le_trans hbW.size hgc
          have HBC := Lib.hid hbc
          have HBV := Lib.hid (Below.trans hbW (Below.mono hv hbW.size))
          clear hN hg cm2' cx' hbc hv hbW
          go_wp2_with fail
          have HB1 := Lib.hid (((HBC.out.set (.int .i32 (y0 : Int))).grow (Grow.alloc _ (.cells #[.bool true] 4))))
          have HB2 := Lib.hid (Box.new (V.setCell ⟨gc, 0, none⟩ (.int .i32 (y0 : Int))) (.bool true) 4)
          have hsz : (V.setCell ⟨gc, 0, none⟩ (.int .i32 (y0 : Int))).heap.size = V.heap.size := by simp
          have HB3 := Lib.hid ((HBV.out.setCell (p := ⟨gc, 0, none⟩) hwgc (.int .i32 (y0 : Int))).alloc (by rw [hsz]; exact HBV.out.size) (.cells #[.bool true] 4))
          have HSZ := Lib.hid hsz
          have hgo : w.heap.size ≤ V.heap.size := HBV.out.size
          clear hsz q1 q2
          generalize hgoV : V.heap.size = go at *
          have HB2' : Box ((V.setCell ⟨gc, 0, none⟩ (.int .i32 (y0 : Int))).alloc (.cells #[.bool true] 4)) go (.bool true) := by have h := HB2.out; rw [HSZ.out] at h; exact h
          have HB2'' := Lib.hid HB2'
          clear HB2 HB2' hgoV
          go_loopw [54] (fun i wz => ∃ j : Nat, j ≤ 3 ∧ i = .int .i64 j ∧ Box wz go (.bool (cont (r.take j))) ∧ Box wz gc (.int .i32 ((acc y0 (r.take j) : Nat) : Int)) ∧ Below w.heap.size w wz) (fun i _ => 3 - (intOf i).toNat)
          case atStart => exact ⟨0, by omega, rfl, by simpa [cont] using HB2''.out, by simpa [acc] using HB1.out, HB3.out⟩
          case round =>
            obtain ⟨j, hj, rfl, hbo, hbc, hbz⟩ := hrel
            by_cases hjk : j < 3
            · have hlr := HLN.out
              rw [List.length_cons] at hlr
              obtain ⟨y, hy⟩ : ∃ y, r[j]? = some y := ⟨_, List.getElem?_eq_getElem (by omega)⟩
              have hyb : y < 256 := HB.out y (List.mem_cons_of_mem _ (List.mem_of_getElem? hy))
              have hcy := (HL.out.below hbz (Nat.le_refl _)).cells _ rfl (1 + j) (.int .u8 (y : Int)) (by simp [byt, Nat.add_comm 1 j, hy])
              rw [add_none, ← Nat.add_assoc] at hcy
              have ht : r.take (j + 1) = r.take j ++ [y] := by rw [List.take_add_one, hy]; rfl
              have ha := acc_lt y0 (r.take j) 2 (by rw [List.length_take]; omega)
              have hne : go ≠ gc := by omega
              have HTT := Lib.hid ht; have HNE := Lib.hid hne
              have j0 : (0 : Int) ≤ (j : Int) := by omega
              clear hlr hy ht hne
              go_wp2_with fail
              refine (next_any hbo hbc HNE.out hyb (by omega)).mono ?_
              rw [← cont_snoc, ← acc_snoc, ← HTT.out]
              rintro e w9 ⟨rfl, hbo', hbc', hbel⟩
              have hb9 := hbel _ _ hbz hgo hwgc
              clear hbel hbo hbc hbz hcy
              go_wp2
              go_roundw
              case rel => exact ⟨j + 1, by omega, by go_num, hbo', hbc', hb9⟩
              case measure => simp [intOf]; omega
            · obtain rfl : j = 3 := by omega
              have t1 := hbc.cell
              have hacc := acc_lt y0 (r.take 3) 3 (List.length_take_le _ _)
              have t2 := hbo.cell
              obtain ⟨a, ha⟩ : ∃ a, a = acc y0 (r.take 3) := ⟨_, rfl⟩
              rw [← ha] at t1 hbc hacc
              have HAA := Lib.hid ha
              clear ha
              cases hct : cont (r.take 3) with
              | false =>
                have hh : hit 3 (x :: r) = false := hit_cont hct
                have HNO := Lib.hid (no_next hno.out hh)
                rw [hct] at t2
                clear hct hno hh hbo
                go_wp2
                go_roundw
                case rel => exact ⟨4, by omega, rfl, HNO, hbz⟩
                case measure => simp [intOf]
              | true =>
                rw [hct] at t2
                obtain ⟨S, hS⟩ : ∃ S, sizeI (a : Int) = S := ⟨_, rfl⟩
                have HS := Lib.hid hS; have HCT := Lib.hid hct
                clear hS hct
                go_wp2_with fail
                refine (size_any (HT.out.same hbz)).mono ?_
                rw [HS.out]
                rintro e w10 ⟨rfl, g10⟩
                have t3 := (hbc.grow g10).cell
                have hb10 := then_ hbz g10
                clear g10 hbo hbc
                by_cases hSk : S = 4
                · have s1 : ((S : Int) == 4) = true := by simp; omega
                  have hh : hit 3 (x :: r) = true := by
                    have h1 := HS.out
                    have h2 := HCT.out
                    have h3 := HLN.out
                    have h4 := HAA.out
                    have h5 := HY0.out
                    rw [List.length_cons] at h3
                    simp only [hit, Bool.and_eq_true, decide_eq_true_eq, List.length_cons]
                    rw [← h5, ← h4]
                    exact ⟨⟨⟨by simp only [lead, decide_eq_true_eq]; exact hlead, by omega⟩, h2⟩, by omega⟩
                  have hd := dec1_at (by decide) hno.out hh
                  have hv : val 3 (x :: r) = a := by rw [HAA.out, HY0.out]; rfl
                  have q : FirstPost (x :: r) w (.returned (.tuple #[.int .i32 (a : Int), .int .i64 4])) w10 := ⟨by rw [hd.1, hd.2, hv]; rfl, hb10⟩
                  have HQ := Lib.hid q
                  clear q hd hv hh hSk hlead hno
                  go_wp2
                  go_ret2
                  exact HQ.out
                · have s1 : ((S : Int) == 4) = false := by simp; omega
                  have hh : hit 3 (x :: r) = false := by
                    have h1 := HS.out
                    have h4 := HAA.out
                    have h5 := HY0.out
                    simp only [hit, Bool.and_eq_false_iff, decide_eq_false_iff_not]
                    right
                    rw [← h5, ← h4]
                    omega
                  have HNO := Lib.hid (no_next hno.out hh)
                  clear hh hSk hlead hno
                  go_wp2
                  go_roundw
                  case rel => exact ⟨4, by omega, rfl, HNO, hb10⟩
                  case measure => simp [intOf]
      · have e1 : ((x : Int) / 8 == 30) = false := by simp; omega
        have e2 : ((x : Int) / 8 != 30) = true := by simp; omega
        have hh : hit 3 (x :: r) = false := by simp [hit, lead, hlead]
        have HNO := Lib.hid (no_next hno.out hh)
        clear hlead hno hh
        go_wp2_with fail
        refine Chain.start Nat (by kernel_rfl) (by kernel_rfl) (fun hg => ?_)
        repeat (first | (refine Chain.skip hg (fun t => by rfl) ?_; simp only [Act.put, List.setIfInBounds_toArray, List.set_cons_zero, List.set_cons_succ]) | (refine Chain.pure hg (X := ?_) (fun t W hw hN => ⟨by rfl, ?_⟩) ?_; rotate_left; (focus (go_simp <;> with_reducible rfl)); simp only [Act.put, List.setIfInBounds_toArray, List.set_cons_zero, List.set_cons_succ]))
        refine Chain.done (fun t W hw hN => ?_)
        have hbW := Below.trans (hb.alloc hb.size (.cells #[.int .i32 1114111, .int .u8 240, .int .u64 3] 53)) (Below.mono hw (by have := hb.size; simp; omega))
        clear hN hg cm1 cm2 cx
        go_wp2
        go_roundw
        case rel => exact ⟨4, by omega, rfl, HNO, hbW⟩
        case measure => simp [intOf]
    | 4, _ =>
      have hd := dec1_no hno.out
      have q : FirstPost (x :: r) w (.returned (.tuple #[.int .i32 0, .int .i64 0])) wr := ⟨by rw [hd.1, hd.2]; rfl, hb⟩
      have HQ := Lib.hid q
      clear q hd
      go_wp2
      go_ret2
      exact HQ.out
end Go.Proofs.YtbphdojjddnljaaDoor

