/-
  crc: the walk of CrcXor.
-/
import Derived.Test.YthoaagkllkcacaaDoorCell
import Derived.Test.YthoaagkllkcacaaDoorFacts
import Derived.Deep.DeepCutAuto
namespace Go.Proofs.YthoaagkllkcacaaDoor
open Go.RowKit
set_option linter.unusedSimpArgs false

theorem xor3_get (a b c : List Nat) (k x y z : Nat) (h1 : a.length = b.length) (h2 : b.length = c.length) (ha : a[k]? = some x) (hb : b[k]? = some y) (hc : c[k]? = some z) : (xorB (xorB a b) c)[k]? = some (x ^^^ y ^^^ z) := by
  induction a generalizing b c k with
  | nil => simp at ha
  | cons p a ih =>
    match b, c with
    | [], _ => simp at h1
    | _ :: _, [] => simp at h2
    | q :: b, r :: c =>
      match k with
      | 0 => simp at ha hb hc; subst ha hb hc; rfl
      | k + 1 =>
        simp only [xorB, List.getElem?_cons_succ] at *
        exact ih b c k (by simpa using h1) (by simpa using h2) ha hb hc

set_option maxRecDepth 100000 in
set_option maxHeartbeats 3000000 in
set_option linter.unusedVariables false in
theorem crcxor_any {A B C : Option Addr} {na nb nc ca cb cc : Nat} {la lb lc : List Nat} {w : World} (hT : Tab w) (h1 : Lies w 1 A na ca (byt la)) (h2 : Lies w 1 B nb cb (byt lb)) (h3 : Lies w 1 C nc cc (byt lc))
    (b1 : ∀ x ∈ la, x < 256) (b2 : ∀ x ∈ lb, x < 256) (b3 : ∀ x ∈ lc, x < 256) (r1 : ca * 1 ≤ 140737488351232) :
    Calls Tryd.prog 5 #[.slice A na ca, .slice B nb cb, .slice C nc cc] w fun e w' => e = .returned (.bool true) ∧ Below w.heap.size w w' := by
  obtain ⟨i0, hi, hz0, hz1, hz2⟩ := info_parts info_u8
  have l1 := h1.le
  have l2 := h2.le
  have l3 := h3.le
  have g1 := h1.big
  have g2 := h2.big
  have g3 := h3.big
  obtain ⟨n, hn0⟩ : ∃ n, n = min na (min nb nc) := ⟨_, rfl⟩
  have n1 : n ≤ na := by omega
  have n2 : n ≤ nb := by omega
  have n3 : n ≤ nc := by omega
  have hn := Lib.hid hn0
  clear hn0
  have t1 : (la.take n).length = n := by have := h1.bytes_len; rw [List.length_take]; omega
  have t2 : (lb.take n).length = n := by have := h2.bytes_len; rw [List.length_take]; omega
  have t3 : (lc.take n).length = n := by have := h3.bytes_len; rw [List.length_take]; omega
  obtain ⟨X, hX0⟩ : ∃ X, X = xorB (xorB (la.take n) (lb.take n)) (lc.take n) := ⟨_, rfl⟩
  have hXl0 : X.length = n := by rw [hX0, xorB_len _ _ (by rw [xorB_len _ _ (by omega)]; omega), xorB_len _ _ (by omega)]; omega
  have hL0 : (la.take n).length = (lb.take n).length ∧ (lb.take n).length = (lc.take n).length := ⟨by omega, by omega⟩
  have HL := Lib.hid hL0; have HX := Lib.hid hX0; have hXl := Lib.hid hXl0; have HB1 := Lib.hid b1; have HB2 := Lib.hid b2; have HB3 := Lib.hid b3
  clear hL0 hX0 hXl0 t1 t2 t3 b1 b2 b3
  go_enter Tryd.func5, Tryd.ntmps5
  go_upto_region 1 with fail
  go_cut [7] (fun s7 wx => s7 = .int .i64 n ∧ w = wx)
  case first =>
    all_goals go_wp2_with fail
    all_goals go_meet
    all_goals refine ⟨ret_val ?_, rfl⟩
    all_goals (have := hn.out; omega)
  case rest =>
    obtain ⟨rfl, rfl⟩ := hcut
    go_wp2_with (at_make; refine wpList_make_full _ rfl _ _ 23 rfl w.heap.size 5 i0 (.int .u8 0) 1 Tryd.underlying23 hi hz0 hz1 .i64 .i64 _ _ n rfl rfl rfl rfl (by rw [hz2]; omega) (by simp only [maxLen]; omega) (Nat.le_refl _) ?_; intro w1 hown1 hg1)
    go_loopw [9] (fun i wr => ∃ k : Nat, k ≤ n ∧ i = .int .i64 k ∧ wr.ownsRow w.heap.size 5 1 (.slice (some ⟨w.heap.size, 0, none⟩) n n) n (byt (X.take k) ++ List.replicate (n - k) (.int .u8 0)) ∧ Below w.heap.size w wr) (fun i _ => n - (intOf i).toNat)
    case atStart =>
      refine ⟨0, Nat.zero_le _, rfl, ?_, (Below.refl _ _).grown hg1 (Nat.le_refl _) (by simp)⟩
      have e : (madeCells (Value.int IntKind.u8 0).cells (n * 1)).toList = byt (X.take 0) ++ List.replicate (n - 0) (.int .u8 0) := by
        rw [Nat.mul_one]; exact toList_madeCells_one _ _
      rw [← e]
      exact hown1
    case round =>
      obtain ⟨k, hk, rfl, hown, hb⟩ := hrel
      by_cases hlt : k < n
      · obtain ⟨ga, oa, rfl, hga, -⟩ := h1.pos (by omega) (by decide)
        obtain ⟨gb, ob, rfl, hgb, -⟩ := h2.pos (by omega) (by decide)
        obtain ⟨gc, oc, rfl, hgc, -⟩ := h3.pos (by omega) (by decide)
        have hc := hown.cellAt k (by omega)
        have hf := hown.frozenAt k
        have hg : (byt (X.take k) ++ List.replicate (n - k) (.int .u8 0))[k]? = some (.int .u8 0) := by
          rw [List.getElem?_append_right (by rw [byt_len, List.length_take, hXl.out]; omega), byt_len, List.length_take, hXl.out]
          simp [show k - min k n = 0 by omega, show 0 < n - k by omega]
        rw [hg] at hc
        clear hg
        obtain ⟨x, hx⟩ : ∃ x, la[k]? = some x := ⟨_, List.getElem?_eq_getElem (by have := h1.bytes_len; omega)⟩
        obtain ⟨y, hy⟩ : ∃ y, lb[k]? = some y := ⟨_, List.getElem?_eq_getElem (by have := h2.bytes_len; omega)⟩
        obtain ⟨z, hz⟩ : ∃ z, lc[k]? = some z := ⟨_, List.getElem?_eq_getElem (by have := h3.bytes_len; omega)⟩
        have xl := HB1.out x (List.mem_of_getElem? hx)
        have yl := HB2.out y (List.mem_of_getElem? hy)
        have zl := HB3.out z (List.mem_of_getElem? hz)
        have ca1 := (h1.below hb (Nat.le_refl _)).cells _ rfl k (.int .u8 x) (by simp [byt, hx])
        have cb1 := (h2.below hb (Nat.le_refl _)).cells _ rfl k (.int .u8 y) (by simp [byt, hy])
        have cc1 := (h3.below hb (Nat.le_refl _)).cells _ rfl k (.int .u8 z) (by simp [byt, hz])
        simp only [add_none] at ca1 cb1 cc1
        have i0 : (0 : Int) ≤ (k : Int) := by omega
        have i1 : (k : Int) < (na : Int) := by omega
        have i2 : (k : Int) < (nb : Int) := by omega
        have i3 : (k : Int) < (nc : Int) := by omega
        have i4 : (k : Int) < (n : Int) := by omega
        have e1 := u8_xor_nat x y xl yl
        have e2 := u8_xor_nat (x ^^^ y) z (Nat.xor_lt_two_pow (n := 8) xl yl) zl
        have hX : X[k]? = some (x ^^^ y ^^^ z) := by
          rw [HX.out]
          exact xor3_get _ _ _ k x y z HL.out.1 HL.out.2 (by rw [List.getElem?_take, if_pos hlt]; exact hx) (by rw [List.getElem?_take, if_pos hlt]; exact hy) (by rw [List.getElem?_take, if_pos hlt]; exact hz)
        have hst := hown.stored k (.int .u8 ((x ^^^ y ^^^ z : Nat) : Int))
        have hset : (byt (X.take k) ++ List.replicate (n - k) (Value.int .u8 0)).set k (Value.int .u8 ((x ^^^ y ^^^ z : Nat) : Int)) = byt (X.take (k + 1)) ++ List.replicate (n - (k + 1)) (.int .u8 0) := by
          have hm : (X.take k).length = k := by rw [List.length_take, hXl.out]; omega
          rw [List.set_append_right _ _ (by rw [byt_len, hm]; omega), byt_len, hm, Nat.sub_self, show n - k = (n - (k + 1)) + 1 by omega, List.replicate_succ, List.set_cons_zero, List.take_add_one, hX, byt_app]
          simp [byt]
        rw [hset] at hst
        have HST := Lib.hid hst
        obtain ⟨u, hu⟩ : ∃ u : Int, u = ((x ^^^ y ^^^ z : Nat) : Int) := ⟨_, rfl⟩
        obtain ⟨v, hv⟩ : ∃ v : Int, v = ((x ^^^ y : Nat) : Int) := ⟨_, rfl⟩
        rw [← hv] at e1 e2
        rw [← hu] at e2
        have HU := Lib.hid hu
        have hb2 := hb.setCell (p := ⟨w.heap.size, k, none⟩) (by simp) (.int .u8 u)
        have ca2 := (h1.below hb2 (Nat.le_refl _)).cells _ rfl k (.int .u8 x) (by simp [byt, hx])
        have cb2 := (h2.below hb2 (Nat.le_refl _)).cells _ rfl k (.int .u8 y) (by simp [byt, hy])
        have cc2 := (h3.below hb2 (Nat.le_refl _)).cells _ rfl k (.int .u8 z) (by simp [byt, hz])
        simp only [add_none] at ca2 cb2 cc2
        have CA2 := Lib.hid ca2; have CB2 := Lib.hid cb2; have CC2 := Lib.hid cc2; have HB2' := Lib.hid hb2
        clear hst hset hX hx hy hz hu hv xl yl zl ca2 cb2 cc2 hb2
        go_wp2_with fail
        go_region_held3 (fun w' => w'.cell? ⟨ga, oa + k, none⟩ = some (.int .u8 x) ∧ w'.cell? ⟨gb, ob + k, none⟩ = some (.int .u8 y) ∧ w'.cell? ⟨gc, oc + k, none⟩ = some (.int .u8 z)) (first | exact ⟨ca1, cb1, cc1⟩ | exact ⟨CA2.out, CB2.out, CC2.out⟩) (first | fail)
        go_wp2
        go_roundw
        case rel => exact ⟨k + 1, by omega, by go_num, by have := HST.out.1; rw [← HU.out] at this; exact this, below_drawn HB2'.out 1⟩
        case measure => simp [intOf]; omega
      · obtain rfl : k = n := by omega
        have hXX : X.take k = X := List.take_of_length_le (by rw [hXl.out]; exact Nat.le_refl _)
        rw [hXX, Nat.sub_self, List.replicate_zero, List.append_nil] at hown
        clear hXX
        have L0 := Lies.of_own hown
        have L1 := (h1.below hb (Nat.le_refl _)).takeb k n1
        have L2 := (h2.below hb (Nat.le_refl _)).takeb k n2
        have L3 := (h3.below hb (Nat.le_refl _)).takeb k n3
        have bb1 : ∀ x ∈ la.take k, x < 256 := fun x hx => HB1.out x (List.mem_of_mem_take hx)
        have bb2 : ∀ x ∈ lb.take k, x < 256 := fun x hx => HB2.out x (List.mem_of_mem_take hx)
        have bb3 : ∀ x ∈ lc.take k, x < 256 := fun x hx => HB3.out x (List.mem_of_mem_take hx)
        have bb0 : ∀ x ∈ X, x < 256 := by
          intro x hx
          obtain ⟨j, hj⟩ := List.getElem?_of_mem hx
          have hjl := (List.getElem?_eq_some_iff.1 hj).1
          rw [hXl.out] at hjl
          obtain ⟨x1, hx1⟩ : ∃ x, (la.take k)[j]? = some x := ⟨_, List.getElem?_eq_getElem (by have := h1.bytes_len; rw [List.length_take]; omega)⟩
          obtain ⟨x2, hx2⟩ : ∃ x, (lb.take k)[j]? = some x := ⟨_, List.getElem?_eq_getElem (by have := h2.bytes_len; rw [List.length_take]; omega)⟩
          obtain ⟨x3, hx3⟩ : ∃ x, (lc.take k)[j]? = some x := ⟨_, List.getElem?_eq_getElem (by have := h3.bytes_len; rw [List.length_take]; omega)⟩
          have := xor3_get _ _ _ j x1 x2 x3 HL.out.1 HL.out.2 hx1 hx2 hx3
          rw [← HX.out, hj] at this
          injection this with this
          rw [this]
          exact Nat.xor_lt_two_pow (n := 8) (Nat.xor_lt_two_pow (n := 8) (bb1 _ (List.mem_of_getElem? hx1)) (bb2 _ (List.mem_of_getElem? hx2))) (bb3 _ (List.mem_of_getElem? hx3))
        obtain ⟨S0, hS0⟩ : ∃ S, S = sum X := ⟨_, rfl⟩
        obtain ⟨S1, hS1⟩ : ∃ S, S = sum (la.take k) := ⟨_, rfl⟩
        obtain ⟨S2, hS2⟩ : ∃ S, S = sum (lb.take k) := ⟨_, rfl⟩
        obtain ⟨S3, hS3⟩ : ∃ S, S = sum (lc.take k) := ⟨_, rfl⟩
        obtain ⟨V, hV⟩ : ∃ V, V = S1 ^^^ S2 := ⟨_, rfl⟩
        have s1 : S1 < 4294967296 := by rw [hS1]; exact sum_lt bb1
        have s2 : S2 < 4294967296 := by rw [hS2]; exact sum_lt bb2
        have s3 : S3 < 4294967296 := by rw [hS3]; exact sum_lt bb3
        have hv : V < 4294967296 := by rw [hV]; exact xor_lt32 s1 s2
        have e1 := u32_xor_nat S1 S2 s1 s2
        rw [← hV] at e1
        have e2 := u32_xor_nat V S3 hv s3
        have e3 : V ^^^ S3 = S0 := by rw [hS0, HX.out, sum_xor3 _ _ _ HL.out.1 HL.out.2, hV, hS1, hS2, hS3]
        rw [e3] at e2
        have HS0 := Lib.hid hS0; have HS1 := Lib.hid hS1; have HS2 := Lib.hid hS2; have HS3 := Lib.hid hS3
        have J1 := Lib.hid bb0; have J2 := Lib.hid bb1; have J3 := Lib.hid bb2; have J4 := Lib.hid bb3
        have T0 := hT.same hb
        have U0 := Lib.hid T0
        have K0 := Lib.hid L0
        have K1 := Lib.hid L1
        have K2 := Lib.hid L2
        have K3 := Lib.hid L3
        have q0 : (0 : Int) ≤ (k : Int) := by omega
        have q1 : (k : Int) ≤ (ca : Int) := by omega
        have q2 : (k : Int) ≤ (cb : Int) := by omega
        have q3 : (k : Int) ≤ (cc : Int) := by omega
        have hbs := Lib.hid hb.size
        have HBw := Lib.hid hb
        clear L0 L1 L2 L3 bb0 bb1 bb2 bb3 hS0 hS1 hS2 hS3 hV s1 s2 s3 hv e3 T0 h1 h2 h3 hown hb hT
        go_wp2_with fail
        refine Chain.start Nat (by kernel_rfl) (by kernel_rfl) (fun hg => ?_)
        repeat (refine Chain.pure hg (X := ?_) (fun t W hw hN => ⟨by rfl, ?_⟩) ?_; rotate_left; (focus (go_simp <;> with_reducible rfl)); simp only [Act.put, List.setIfInBounds_toArray, List.set_cons_zero, List.set_cons_succ])
        refine Chain.grow hg (fun g : Nat => .slice (some ⟨g, 0, none⟩) 1 1) (fun g W => W.cell? ⟨g, 0, none⟩ = some (.slice (some ⟨w.heap.size, 0, none⟩) k k))  (fun _ _ _ h k => grow_cell h k) (fun _ => by rfl) (fun t W hw hN K hK => ?_) ?_
        · go_simp; exact hK.out _ _ (Grow.alloc _ _) (box_cell _ _ _)
        simp only [Act.put, List.setIfInBounds_toArray, List.set_cons_zero, List.set_cons_succ]
        refine Chain.grow hg (fun _ => .int .u32 (S0 : Int)) (fun _ _ => True) (fun _ _ _ h _ => h) (fun _ => by rfl) (fun t W hw hN K hK => ?_) ?_
        · have hc := hN.get 1 rfl (by kernel_rfl); go_simp; refine (sum1_cell (w := wr) S0 (by rw [HS0.out]) hc hw U0.out K0.out J1.out).mono ?_; rintro e w1 ⟨rfl, rfl⟩; exact hK.out 0 _ (Grow.refl _) trivial
        simp only [Act.put, List.setIfInBounds_toArray, List.set_cons_zero, List.set_cons_succ]
        repeat (refine Chain.pure hg (X := ?_) (fun t W hw hN => ⟨by rfl, ?_⟩) ?_; rotate_left; (focus (go_simp <;> with_reducible rfl)); simp only [Act.put, List.setIfInBounds_toArray, List.set_cons_zero, List.set_cons_succ])
        refine Chain.grow hg (fun g : Nat => .slice (some ⟨g, 0, none⟩) 1 1) (fun g W => W.cell? ⟨g, 0, none⟩ = some (.slice A k ca))  (fun _ _ _ h k => grow_cell h k) (fun _ => by rfl) (fun t W hw hN K hK => ?_) ?_
        · go_simp; exact hK.out _ _ (Grow.alloc _ _) (box_cell _ _ _)
        simp only [Act.put, List.setIfInBounds_toArray, List.set_cons_zero, List.set_cons_succ]
        refine Chain.grow hg (fun _ => .int .u32 (S1 : Int)) (fun _ _ => True) (fun _ _ _ h _ => h) (fun _ => by rfl) (fun t W hw hN K hK => ?_) ?_
        · have hc := hN.get 6 rfl (by kernel_rfl); go_simp; refine (sum1_cell (w := wr) S1 (by rw [HS1.out]) hc hw U0.out K1.out J2.out).mono ?_; rintro e w1 ⟨rfl, rfl⟩; exact hK.out 0 _ (Grow.refl _) trivial
        simp only [Act.put, List.setIfInBounds_toArray, List.set_cons_zero, List.set_cons_succ]
        repeat (refine Chain.pure hg (X := ?_) (fun t W hw hN => ⟨by rfl, ?_⟩) ?_; rotate_left; (focus (go_simp <;> with_reducible rfl)); simp only [Act.put, List.setIfInBounds_toArray, List.set_cons_zero, List.set_cons_succ])
        refine Chain.grow hg (fun g : Nat => .slice (some ⟨g, 0, none⟩) 1 1) (fun g W => W.cell? ⟨g, 0, none⟩ = some (.slice B k cb))  (fun _ _ _ h k => grow_cell h k) (fun _ => by rfl) (fun t W hw hN K hK => ?_) ?_
        · go_simp; exact hK.out _ _ (Grow.alloc _ _) (box_cell _ _ _)
        simp only [Act.put, List.setIfInBounds_toArray, List.set_cons_zero, List.set_cons_succ]
        refine Chain.grow hg (fun _ => .int .u32 (S2 : Int)) (fun _ _ => True) (fun _ _ _ h _ => h) (fun _ => by rfl) (fun t W hw hN K hK => ?_) ?_
        · have hc := hN.get 11 rfl (by kernel_rfl); go_simp; refine (sum1_cell (w := wr) S2 (by rw [HS2.out]) hc hw U0.out K2.out J3.out).mono ?_; rintro e w1 ⟨rfl, rfl⟩; exact hK.out 0 _ (Grow.refl _) trivial
        simp only [Act.put, List.setIfInBounds_toArray, List.set_cons_zero, List.set_cons_succ]
        repeat (refine Chain.pure hg (X := ?_) (fun t W hw hN => ⟨by rfl, ?_⟩) ?_; rotate_left; (focus (go_simp <;> with_reducible rfl)); simp only [Act.put, List.setIfInBounds_toArray, List.set_cons_zero, List.set_cons_succ])
        refine Chain.grow hg (fun g : Nat => .slice (some ⟨g, 0, none⟩) 1 1) (fun g W => W.cell? ⟨g, 0, none⟩ = some (.slice C k cc))  (fun _ _ _ h k => grow_cell h k) (fun _ => by rfl) (fun t W hw hN K hK => ?_) ?_
        · go_simp; exact hK.out _ _ (Grow.alloc _ _) (box_cell _ _ _)
        simp only [Act.put, List.setIfInBounds_toArray, List.set_cons_zero, List.set_cons_succ]
        refine Chain.grow hg (fun _ => .int .u32 (S3 : Int)) (fun _ _ => True) (fun _ _ _ h _ => h) (fun _ => by rfl) (fun t W hw hN K hK => ?_) ?_
        · have hc := hN.get 17 rfl (by kernel_rfl); go_simp; refine (sum1_cell (w := wr) S3 (by rw [HS3.out]) hc hw U0.out K3.out J4.out).mono ?_; rintro e w1 ⟨rfl, rfl⟩; exact hK.out 0 _ (Grow.refl _) trivial
        simp only [Act.put, List.setIfInBounds_toArray, List.set_cons_zero, List.set_cons_succ]
        repeat (refine Chain.pure hg (X := ?_) (fun t W hw hN => ⟨by rfl, ?_⟩) ?_; rotate_left; (focus (go_simp <;> with_reducible rfl)); simp only [Act.put, List.setIfInBounds_toArray, List.set_cons_zero, List.set_cons_succ])
        refine Chain.grow hg (fun _ => .bool true) (fun _ _ => True) (fun _ _ _ h _ => h) (fun _ => by rfl) (fun t W hw hN K hK => ?_) ?_
        · go_simp; refine (wakes_any (U0.out.same hw)).mono ?_; rintro e w1 ⟨rfl, hb5⟩; exact hK.out 0 _ hb5 trivial
        simp only [Act.put, List.setIfInBounds_toArray, List.set_cons_zero, List.set_cons_succ]
        repeat (refine Chain.pure hg (X := ?_) (fun t W hw hN => ⟨by rfl, ?_⟩) ?_; rotate_left; (focus (go_simp <;> with_reducible rfl)); simp only [Act.put, List.setIfInBounds_toArray, List.set_cons_zero, List.set_cons_succ])
        refine Chain.done (fun t w5 hw hN => ?_)
        clear hN hg
        have hbw := then_ HBw.out hw
        go_wp2
        go_ret
        exact ⟨rfl, hbw⟩
end Go.Proofs.YthoaagkllkcacaaDoor
