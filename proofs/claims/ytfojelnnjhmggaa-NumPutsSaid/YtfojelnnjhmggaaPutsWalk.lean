/-
  num: the walk of NumPuts.
-/
import Derived.Test.YtfojelnnjhmggaaRefPut
namespace Go.Proofs.Ytfojelnnjhmggaa
open Go.RowKit

theorem then_ {a b c : World} (h : Below a.heap.size a b) (k : Below b.heap.size b c) : Below a.heap.size a c := h.trans (k.mono h.size)
theorem own_below {w w' : World} {base : Nat} {e : TypeId} {sz n : Nat} {v : Value} {xs : List Value} (h : w.ownsRow base e sz v n xs) (hb : Below w.heap.size w w') : w'.ownsRow base e sz v n xs := by
  refine ⟨h.1, ?_⟩
  rcases h.2 with h2 | ⟨g, cap, cur, hv, hg, hh, r⟩
  · exact .inl h2
  · exact .inr ⟨g, cap, cur, hv, hg, by rw [hb.block g (Array.getElem?_eq_some_iff.1 hh).1]; exact hh, r⟩
theorem own_grown {w w' : World} {base : Nat} {e : TypeId} {sz n g0 : Nat} {v : Value} {xs : List Value} (h : w.ownsRow base e sz v n xs) (hb : w.grownBy w' (some g0)) (hne : v.ownBlock ≠ some g0) : w'.ownsRow base e sz v n xs := h.kept hb (.inr hne)
theorem own_at {w : World} {base : Nat} {e : TypeId} {sz n c : Nat} {A : Option Addr} {xs : List Value} (h : w.ownsRow base e sz (.slice A n c) n xs) (hn : 0 < n) : ∃ g, A = some ⟨g, 0, none⟩ ∧ base ≤ g ∧ g < w.heap.size := by
  rcases h.2 with ⟨hv, h0⟩ | ⟨g, cap, cur, hv, hg, hh, r⟩
  · omega
  · injection hv with hA
    exact ⟨g, hA, hg, (Array.getElem?_eq_some_iff.1 hh).1⟩
theorem cell_grown {w w' : World} {g0 : Nat} {p : Addr} {v : Value} (hb : w.grownBy w' (some g0)) (h : w.cell? p = some v) (hne : p.block ≠ g0) : w'.cell? p = some v :=
  hb.cell h (fun e => hne (by injection e))
theorem lies_grown {w w' : World} {sz n c g0 : Nat} {A : Option Addr} {xs : List Value} (h : Lies w sz A n c xs) (hb : w.grownBy w' (some g0)) (hne : ∀ a, A = some a → a.block ≠ g0) : Lies w' sz A n c xs :=
  ⟨h.len, h.nilc, h.le, h.big, fun a ha j u hu => cell_grown hb (h.cells a ha j u hu) (by rw [add_block]; exact hne a ha)⟩
theorem grown_trans {a b c : World} {r : Option Nat} (h : a.grownBy b r) (k : b.grownBy c r) : a.grownBy c r :=
  ⟨k.os.trans h.os, k.tape.trans h.tape, k.output.trans h.output, Nat.le_trans h.size k.size, fun i hi hne => (k.block i (Nat.lt_of_lt_of_le hi h.size) hne).trans (h.block i hi hne)⟩

theorem rfold_at (n : Int) (r : Int) (w : World) (hr : foldI n = r) (h0 : -9223372036854775808 ≤ n) (h1 : n ≤ 9223372036854775807) :
    Calls Try.prog 24 #[.int .i64 n] w fun e w' => e = .returned (.int .u64 r) ∧ w = w' := by
  subst hr
  exact rfold_any n w h0 h1
theorem runfold_at (n : Int) (r : Int) (w : World) (hr : unfoldI n = r) (h0 : 0 ≤ n) (h1 : n < 18446744073709551616) :
    Calls Try.prog 28 #[.int .u64 n] w fun e w' => e = .returned (.int .i64 r) ∧ w = w' := by
  subst hr
  exact runfold_any n w h0 h1
/-- What stands behind the calls: four slices of the call's own, and four others with the same bytes. -/
structure Four (w : World) (gl gw : Nat) (G : Nat → Nat) (M C : Nat → Nat) (D : Nat → List Nat) (H : Nat → Option Addr) (K : Nat → Nat) (k : Nat) : Prop where
  cl : ∀ j, j < 4 → w.cell? ⟨gl, j, none⟩ = some (.slice (some ⟨G j, 0, none⟩) (M j) (C j))
  cw : ∀ j, j < 4 → w.cell? ⟨gw, j, none⟩ = some (.slice (H j) (M j) (K j))
  own : ∀ j, k ≤ j → j < 4 → w.ownsRow 0 5 1 (.slice (some ⟨G j, 0, none⟩) (M j) (C j)) (M j) (byt (D j))
  lies : ∀ j, j < 4 → Lies w 1 (H j) (M j) (K j) (byt (D j))
structure FourApart (gl gw : Nat) (G : Nat → Nat) (H : Nat → Option Addr) : Prop where
  ne : ∀ i j, i < 4 → j < 4 → i ≠ j → G i ≠ G j
  hne : ∀ i j, i < 4 → j < 4 → ∀ a, H j = some a → a.block ≠ G i
  lne : ∀ i, i < 4 → gl ≠ G i ∧ gw ≠ G i
def sel {α : Type} (a b c d : α) : Nat → α
  | 0 => a
  | 1 => b
  | 2 => c
  | _ => d
theorem sel_all {P : Nat → Prop} (h0 : P 0) (h1 : P 1) (h2 : P 2) (h3 : P 3) : ∀ j, j < 4 → P j
  | 0, _ => h0
  | 1, _ => h1
  | 2, _ => h2
  | 3, _ => h3
  | _ + 4, h => by omega
theorem Four.grown {w w' : World} {gl gw : Nat} {G M C : Nat → Nat} {D : Nat → List Nat} {H : Nat → Option Addr} {K : Nat → Nat} {k : Nat} (h : Four w gl gw G M C D H K k) (ha : FourApart gl gw G H) (hk : k < 4) (hg : w.grownBy w' (some (G k))) : Four w' gl gw G M C D H K (k + 1) :=
  ⟨fun j hj => cell_grown hg (h.cl j hj) (ha.lne k hk).1, fun j hj => cell_grown hg (h.cw j hj) (ha.lne k hk).2,
    fun j hkj hj => own_grown (h.own j (by omega) hj) hg (by simp [Value.ownBlock]; exact ha.ne j k hj hk (by omega)), fun j hj => lies_grown (h.lies j hj) hg (ha.hne k j hk hj)⟩

set_option maxRecDepth 100000 in
set_option maxHeartbeats 4000000 in
theorem puts_any {x : Nat} {A : Option Addr} {n c : Nat} {b : List Nat} {w : World} (hx : x < 18446744073709551616) (hL : Lies w 1 A n c (byt b)) (hB : ∀ y ∈ b, y < 256) (hr : c * 1 ≤ 140737488351232) :
    Calls Try.prog 7 #[.slice A n c, .int .u64 x] w fun e w' => e = .returned (.bool true) ∧ Below w.heap.size w w' := by
  have hle := hL.le
  have hX := bts_ten hx
  have hXp := bts_pos x (by have := pow64; omega)
  obtain ⟨y, hy⟩ : ∃ y, y = wrap64 (x : Int) := ⟨_, rfl⟩
  have hy1 : -9223372036854775808 ≤ y ∧ y ≤ 9223372036854775807 := by rw [hy]; unfold wrap64; omega
  have hfb := foldI_bd hy1.1 hy1.2
  obtain ⟨f, hf⟩ := Int.eq_ofNat_of_zero_le hfb.1
  have hf2 : f < 18446744073709551616 := by omega
  have hF := bts_ten hf2
  have hFp := bts_pos f (by have := pow64; omega)
  have bX : ∀ z ∈ b ++ bts x, z < 256 := fun z hz => (List.mem_append.1 hz).elim (hB z) (bts_bytes x (by have := pow64; omega) z)
  have bF : ∀ z ∈ b ++ bts f, z < 256 := fun z hz => (List.mem_append.1 hz).elim (hB z) (bts_bytes f (by have := pow64; omega) z)
  obtain ⟨u, hu⟩ : ∃ u : Nat, u = x % 4294967296 := ⟨_, rfl⟩
  have hui : (x : Int) % 4294967296 = (u : Int) := by omega
  have hand : bits .and .u64 (x : Int) 4294967295 = (u : Int) := by
    have := u64_and_nat x 4294967295 hx (by decide)
    rw [nat_mask32] at this
    rw [hu]; exact this
  have hu2 : u < 4294967296 := by omega
  have b4 : ∀ z ∈ b ++ le 4 u, z < 256 := fun z hz => (List.mem_append.1 hz).elim (hB z) (le_bytes 4 u z)
  have b8 : ∀ z ∈ b ++ le 8 x, z < 256 := fun z hz => (List.mem_append.1 hz).elim (hB z) (le_bytes 8 x z)
  obtain ⟨X, eX⟩ : ∃ X, X = (bts x).length := ⟨_, rfl⟩
  obtain ⟨F, eF⟩ : ∃ F, F = (bts f).length := ⟨_, rfl⟩
  rw [← eX] at hX hXp
  rw [← eF] at hF hFp
  have Hx := Lib.hid hx; have Hf := Lib.hid hf; have HeX := Lib.hid eX; have HeF := Lib.hid eF; have Hu2 := Lib.hid hu2; have Hf2 := Lib.hid hf2
  have hyw := hy.symm
  have HbX := Lib.hid bX; have HbF := Lib.hid bF; have Hb4 := Lib.hid b4; have Hb8 := Lib.hid b8; have HB := Lib.hid hB; have Hy1 := Lib.hid hy1
  clear hx hy hf eX eF hfb hu hu2 hf2 bX bF b4 b8 hB hy1
  go_enter Try.func7, Try.ntmps7
  go_wp2_with fail
  refine (own_any hL (byt_one _) (by omega)).mono ?_
  rintro e w1 ⟨v1, rfl, own0, hb1⟩
  obtain ⟨A0, c0, rfl, L0⟩ := own_form own0
  go_wp2_with fail
  refine (put_at x x (n + X) (b ++ bts x) rfl rfl (by rw [HeX.out]) L0 Hx.out (by omega)).mono ?_
  rintro e w2 ⟨A1, c1, rfl, own1, -, hb2⟩
  have L02 := L0.below hb2 (Nat.le_refl _)
  go_wp2_with fail
  refine (putint_at y f (n + F) (b ++ bts f) Hf.out rfl (by rw [HeF.out]) L02 Hy1.out.1 Hy1.out.2 (by omega)).mono ?_
  rintro e w3 ⟨A2, c2, rfl, own2, -, hb3⟩
  have L03 := L02.below hb3 (Nat.le_refl _)
  go_wp2_with fail
  refine (put4_at u u (n + 4) (b ++ le 4 u) rfl rfl rfl L03 Hu2.out (by omega)).mono ?_
  rintro e w4 ⟨A3, c3, rfl, own3, -, hb4⟩
  have L04 := L03.below hb4 (Nat.le_refl _)
  go_wp2_with fail
  refine (put8_at x x (n + 8) (b ++ le 8 x) rfl rfl rfl L04 Hx.out (by omega)).mono ?_
  rintro e w5 ⟨A4, c4, rfl, own4, -, hb5⟩
  have L05 := L04.below hb5 (Nat.le_refl _)
  go_wp2_with fail
  have hbw5 := then_ hb1 (then_ hb2 (then_ hb3 (then_ hb4 hb5)))
  obtain ⟨w6, hw6⟩ : ∃ w6, w6 = w5.alloc (Obj.cells #[Value.slice A1 (n + X) c1, Value.slice A2 (n + F) c2, Value.slice A3 (n + 4) c3, Value.slice A4 (n + 8) c4] 28) := ⟨_, rfl⟩
  rw [← hw6]
  have hb6 : Below w5.heap.size w5 w6 := by rw [hw6]; exact (Below.refl _ _).alloc (Nat.le_refl _) _
  have hs6 : w6.heap.size = w5.heap.size + 1 := by rw [hw6]; simp
  have hcl : ∀ j u, #[Value.slice A1 (n + X) c1, Value.slice A2 (n + F) c2, Value.slice A3 (n + 4) c3, Value.slice A4 (n + 8) c4][j]? = some u → w6.cell? ⟨w5.heap.size, j, none⟩ = some u := fun j u hu => by
    rw [hw6, cell_of_row _ w5.heap.size j _ _ (0, 0) (heap_alloc_new w5 _)]; exact hu
  have HW6 := Lib.hid hw6; have HCL := Lib.hid hcl
  clear hw6 hcl
  refine (rput_any x x (n + X) (b ++ bts x) rfl rfl (by rw [HeX.out]) (hL.below (then_ hbw5 hb6) (Nat.le_refl _)) Hx.out (by omega)).mono ?_
  rintro e w7 ⟨B1, k1, rfl, ownB1, LB1, hb7⟩
  go_wp2_with fail
  refine (rfold_at y f _ Hf.out Hy1.out.1 Hy1.out.2).mono ?_
  rintro e w8 ⟨rfl, rfl⟩
  go_wp2_with fail
  have hbw7 := then_ hbw5 (then_ hb6 hb7)
  refine (rput_any f f (n + F) (b ++ bts f) rfl rfl (by rw [HeF.out]) (hL.below hbw7 (Nat.le_refl _)) Hf2.out (by omega)).mono ?_
  rintro e w8 ⟨B2, k2, rfl, ownB2, LB2, hb8⟩
  have hbw8 := then_ hbw7 hb8
  go_wp2_with fail
  refine (rlay_any u 4 u 4 (n + 4) (b ++ le 4 u) rfl rfl (by decide) rfl rfl (hL.below hbw8 (Nat.le_refl _)) (by have := Hu2.out; omega) (by omega)).mono ?_
  rintro e w9 ⟨B3, k3, rfl, ownB3, LB3, hb9⟩
  have hbw9 := then_ hbw8 hb9
  go_wp2_with fail
  refine (rlay_any x 8 x 8 (n + 8) (b ++ le 8 x) rfl rfl (by decide) rfl rfl (hL.below hbw9 (Nat.le_refl _)) Hx.out (by omega)).mono ?_
  rintro e w10 ⟨B4, k4, rfl, ownB4, LB4, hb10⟩
  have hbw10 := then_ hbw9 hb10
  obtain ⟨g1, rfl, g1a, g1b⟩ := own_at own1 (by omega)
  obtain ⟨g2, rfl, g2a, g2b⟩ := own_at own2 (by omega)
  obtain ⟨g3, rfl, g3a, g3b⟩ := own_at own3 (by omega)
  obtain ⟨g4, rfl, g4a, g4b⟩ := own_at own4 (by omega)
  obtain ⟨h1, rfl, h1a, h1b⟩ := own_at ownB1 (by omega)
  obtain ⟨h2, rfl, h2a, h2b⟩ := own_at ownB2 (by omega)
  obtain ⟨h3, rfl, h3a, h3b⟩ := own_at ownB3 (by omega)
  obtain ⟨h4, rfl, h4a, h4b⟩ := own_at ownB4 (by omega)
  go_wp2_with fail
  obtain ⟨W, hW⟩ : ∃ W, W = w10.alloc (Obj.cells #[Value.slice (some ⟨h1, 0, none⟩) (n + X) k1, Value.slice (some ⟨h2, 0, none⟩) (n + F) k2, Value.slice (some ⟨h3, 0, none⟩) (n + 4) k3, Value.slice (some ⟨h4, 0, none⟩) (n + 8) k4] 28) := ⟨_, rfl⟩
  rw [← hW]
  have hb11 : Below w10.heap.size w10 W := by rw [hW]; exact (Below.refl _ _).alloc (Nat.le_refl _) _
  have hcw : ∀ j u, #[Value.slice (some ⟨h1, 0, none⟩) (n + X) k1, Value.slice (some ⟨h2, 0, none⟩) (n + F) k2, Value.slice (some ⟨h3, 0, none⟩) (n + 4) k3, Value.slice (some ⟨h4, 0, none⟩) (n + 8) k4][j]? = some u → W.cell? ⟨w10.heap.size, j, none⟩ = some u := fun j u hu => by
    rw [hW, cell_of_row _ w10.heap.size j _ _ (0, 0) (heap_alloc_new w10 _)]; exact hu
  have t10 := then_ hb10 hb11
  have t9 := then_ hb9 t10
  have t8 := then_ hb8 t9
  have t7 := then_ hb7 t8
  have t6 := then_ hb6 t7
  have t5 := then_ hb5 t6
  have t4 := then_ hb4 t5
  have t3 := then_ hb3 t4
  have s1 := hb1.size; have s2 := hb2.size; have s3 := hb3.size; have s4 := hb4.size; have s5 := hb5.size; have s7 := hb7.size; have s8 := hb8.size; have s9 := hb9.size; have s10 := hb10.size
  obtain ⟨gl, hgl⟩ : ∃ gl, gl = w5.heap.size := ⟨_, rfl⟩
  obtain ⟨gw, hgw⟩ : ∃ gw, gw = w10.heap.size := ⟨_, rfl⟩
  rw [← hgl, ← hgw]
  have hcl : ∀ j u, #[Value.slice (some ⟨g1, 0, none⟩) (n + X) c1, Value.slice (some ⟨g2, 0, none⟩) (n + F) c2, Value.slice (some ⟨g3, 0, none⟩) (n + 4) c3, Value.slice (some ⟨g4, 0, none⟩) (n + 8) c4][j]? = some u → W.cell? ⟨gl, j, none⟩ = some u := fun j u hu => by
    rw [t7.cell (p := ⟨gl, j, none⟩) (by rw [hs6]; show gl < _; omega), hgl]; exact HCL.out j u hu
  obtain ⟨G, M, C, D, H, K, four, ap, hD, hM, hG0⟩ : ∃ (G M C : Nat → Nat) (D : Nat → List Nat) (H : Nat → Option Addr) (K : Nat → Nat), Four W gl gw G M C D H K 0 ∧ FourApart gl gw G H ∧ (∀ j, j < 4 → ∀ z ∈ D j, z < 256) ∧ (∀ j, j < 4 → M j ≤ 140737488355300) ∧ (∀ j, j < 4 → w1.heap.size ≤ G j) := by
    refine ⟨sel g1 g2 g3 g4, sel (n + X) (n + F) (n + 4) (n + 8), sel c1 c2 c3 c4, sel (b ++ bts x) (b ++ bts f) (b ++ le 4 u) (b ++ le 8 x), sel (some ⟨h1, 0, none⟩) (some ⟨h2, 0, none⟩) (some ⟨h3, 0, none⟩) (some ⟨h4, 0, none⟩), sel k1 k2 k3 k4,
      ⟨sel_all (hcl 0 _ rfl) (hcl 1 _ rfl) (hcl 2 _ rfl) (hcl 3 _ rfl), sel_all (by rw [hgw]; exact hcw 0 _ rfl) (by rw [hgw]; exact hcw 1 _ rfl) (by rw [hgw]; exact hcw 2 _ rfl) (by rw [hgw]; exact hcw 3 _ rfl), fun j _ => sel_all (P := fun j => W.ownsRow 0 5 1 (.slice (some ⟨sel g1 g2 g3 g4 j, 0, none⟩) (sel (n + X) (n + F) (n + 4) (n + 8) j) (sel c1 c2 c3 c4 j)) (sel (n + X) (n + F) (n + 4) (n + 8) j) (byt (sel (b ++ bts x) (b ++ bts f) (b ++ le 4 u) (b ++ le 8 x) j))) (own_below (own1.mono (Nat.zero_le _)) t3) (own_below (own2.mono (Nat.zero_le _)) t4) (own_below (own3.mono (Nat.zero_le _)) t5) (own_below (own4.mono (Nat.zero_le _)) t6) j,
        sel_all (LB1.below t8 (Nat.le_refl _)) (LB2.below t9 (Nat.le_refl _)) (LB3.below t10 (Nat.le_refl _)) (LB4.below hb11 (Nat.le_refl _))⟩,
      ⟨?_, ?_, ?_⟩, sel_all HbX.out HbF.out Hb4.out Hb8.out, sel_all (show n + X ≤ _ by omega) (show n + F ≤ _ by omega) (show n + 4 ≤ _ by omega) (show n + 8 ≤ _ by omega), sel_all (show _ ≤ g1 by omega) (show _ ≤ g2 by omega) (show _ ≤ g3 by omega) (show _ ≤ g4 by omega)⟩
    · intro i j hi hj
      refine sel_all (P := fun i => i ≠ j → sel g1 g2 g3 g4 i ≠ sel g1 g2 g3 g4 j) ?_ ?_ ?_ ?_ i hi
      all_goals
        refine sel_all (P := fun j => _ ≠ j → _ ≠ sel g1 g2 g3 g4 j) ?_ ?_ ?_ ?_ j hj
        all_goals (simp only [sel]; omega)
    · intro i j hi hj a ha
      refine sel_all (P := fun i => a.block ≠ sel g1 g2 g3 g4 i) ?_ ?_ ?_ ?_ i hi
      all_goals
        revert ha
        refine sel_all (P := fun j => sel (some (⟨h1, 0, none⟩ : Addr)) (some ⟨h2, 0, none⟩) (some ⟨h3, 0, none⟩) (some ⟨h4, 0, none⟩) j = some a → a.block ≠ _) ?_ ?_ ?_ ?_ j hj
        all_goals (simp only [sel, Option.some.injEq]; rintro rfl; simp only []; omega)
    · refine sel_all ?_ ?_ ?_ ?_
      all_goals (simp only [sel]; constructor <;> omega)
  have hL0 : Lies W 1 A0 n c0 (byt b) := (L05.below t6 (Nat.le_refl _))
  have hA0 : ∀ a, A0 = some a → a.block < w1.heap.size := by
    intro a ha
    rcases own0.2 with ⟨hv, _⟩ | ⟨g, cap, cur, hv, _, hh, _⟩
    · injection hv with h; rw [ha] at h; cases h
    · injection hv with h; rw [ha] at h; injection h with h; subst h; exact (Array.getElem?_eq_some_iff.1 hh).1
  have hbW := then_ hbw10 hb11
  have hs0 : Hid (w.heap.size ≤ w1.heap.size) := hb1.size
  have AP := Lib.hid ap; have HDD := Lib.hid hD; have HMM := Lib.hid hM; have HGG := Lib.hid hG0; have HA0 := Lib.hid hA0
  clear ap hD hM hG0 hA0 hcl hcw hW HW6 HCL hgl hgw hs6 s1 t10 t9 t8 t7 t6 t5 t4 t3 s2 s3 s4 s5 s7 s8 s9 s10 own0 own1 own2 own3 own4 ownB1 ownB2 ownB3 ownB4 LB1 LB2 LB3 LB4 L0 L02 L03 L04 L05 hbw5 hbw7 hbw8 hbw9 hbw10 hb2 hb3 hb4 hb5 hb6 hb7 hb8 hb9 hb10 hb11 g1a g1b g2a g2b g3a g3b g4a g4b h1a h1b h2a h2b h3a h3b h4a h4b
  go_loopw [46] (fun i wr => ∃ k : Nat, k ≤ 4 ∧ i = .int .i64 k ∧ Four wr gl gw G M C D H K k ∧ Lies wr 1 A0 n c0 (byt b) ∧ Below w.heap.size w wr) (fun i _ => 4 - (intOf i).toNat)
  case atStart => exact ⟨0, by omega, rfl, four, hL0, hbW⟩
  case round =>
    obtain ⟨k, hk, rfl, hfour, hLk, hbk⟩ := hrel
    by_cases hlt : k < 4
    · have cl := hfour.cl k hlt
      have cw := hfour.cw k hlt
      have ow := hfour.own k (Nat.le_refl _) hlt
      have lw := hfour.lies k hlt
      have hMk := HMM.out k hlt
      have F4 := Lib.hid hfour
      clear hfour
      go_wp2_with fail
      go_region_held3 (fun w' => w'.cell? ⟨gl, k, none⟩ = some (.slice (some ⟨G k, 0, none⟩) (M k) (C k)) ∧ w'.cell? ⟨gw, k, none⟩ = some (.slice (H k) (M k) (K k))) (exact ⟨cl, cw⟩)
        (first | (go_at_call 18; refine (equal_at (D k) (D k) true ((Lies.of_own ow).drewN _) (lw.drewN _) (HDD.out k hlt) (HDD.out k hlt) (by simp)).mono ?_; rintro e w13 ⟨rfl, rfl⟩))
      go_wp2
      obtain ⟨wo, rfl⟩ : ∃ wo : World, wo = wr := ⟨_, rfl⟩
      go_loopw [64] (fun i wq => ∃ (q : Nat) (xs : List Value), q ≤ M k ∧ i = .int .i64 q ∧ wo.grownBy wq (some (G k)) ∧ wq.ownsRow 0 5 1 (.slice (some ⟨G k, 0, none⟩) (M k) (C k)) (M k) xs ∧ Hid (xs.drop q = byt ((D k).drop q))) (fun i _ => M k - (intOf i).toNat)
      case atStart => exact ⟨0, byt (D k), Nat.zero_le _, rfl, ⟨rfl, rfl, rfl, Nat.le_refl _, fun _ _ _ => rfl⟩, ow, rfl⟩
      case round =>
        obtain ⟨q, xs, hq, rfl, hg, hox, hxs⟩ := hrel
        by_cases hql : q < M k
        · have cl2 := cell_grown hg cl (by have := (AP.out.lne k hlt).1; exact this)
          have hlen : (D k).length = M k := by have := ow.1; rw [byt_len] at this; omega
          have hcx := hox.cellAt q (by omega)
          have hfx := hox.frozenAt q
          obtain ⟨ch, hch⟩ : ∃ ch, (D k)[q]? = some ch := ⟨_, List.getElem?_eq_getElem (by omega)⟩
          have hx0 : xs[q]? = some (.int .u8 (ch : Int)) := by
            have := congrArg (fun l => l[0]?) hxs.out
            simp only [List.getElem?_drop, byt, List.getElem?_map, Nat.add_zero] at this
            rw [this, hch]; rfl
          rw [hx0] at hcx
          have hst : ∀ u, (xs.set q u).drop (q + 1) = byt ((D k).drop (q + 1)) := fun u => by
            have := congrArg (fun l => l.drop 1) hxs.out
            simp only [List.drop_drop, byt, ← List.map_drop] at this
            rw [List.drop_set, if_pos (by omega)]
            simpa [byt] using this
          have HST := Lib.hid hst
          clear hst hx0 hch hlen
          go_wp2
          have hs := hox.stored q (.int .u8 (bits .xor .u8 (ch : Int) 255))
          go_roundw
          case rel => exact ⟨q + 1, _, by omega, by go_num, grown_trans hg hs.2, hs.1, HST.out _⟩
          case measure => simp [intOf]; omega
        · obtain rfl : q = M k := by omega
          go_wp2
          go_roundw
          case rel => exact ⟨k + 1, by omega, by go_num, F4.out.grown AP.out hlt hg, lies_grown hLk hg (fun a ha => by have h1 := HA0.out a ha; have h2 := HGG.out k hlt; omega), hbk.grown hg hbk.size (fun j hj => by injection hj with hj; have h2 := HGG.out k hlt; have h3 := hs0.out; omega)⟩
          case measure => simp [intOf]; omega
    · obtain rfl : k = 4 := by omega
      go_wp2_with fail
      refine awake_any.mono ?_
      rintro e v1 ⟨rfl, hv1⟩
      have hv := hbk.trans (hv1.mono hbk.size)
      go_wp2_with fail
      refine (equal_at b b true (hLk.below hv1 (Nat.le_refl _)) (hL.below hv (Nat.le_refl _)) HB.out HB.out (by simp)).mono ?_
      rintro e v2 ⟨rfl, rfl⟩
      go_wp2_with fail
      refine (size_at x X _ (by omega) (by have := Hx.out; omega) (by rw [Int.toNat_natCast, HeX.out])).mono ?_
      rintro e v2 ⟨rfl, rfl⟩
      go_wp2_with fail
      refine (rsize_any x X _ (by omega) (by have := Hx.out; omega) (by rw [Int.toNat_natCast, HeX.out])).mono ?_
      rintro e v2 ⟨rfl, hv2⟩
      have hvv := hv.trans (hv2.mono hv.size)
      go_wp2_with fail
      refine (fold_at y f _ Hf.out Hy1.out.1 Hy1.out.2).mono ?_
      rintro e v3 ⟨rfl, rfl⟩
      go_wp2_with fail
      refine (rfold_at y f _ Hf.out Hy1.out.1 Hy1.out.2).mono ?_
      rintro e v3 ⟨rfl, rfl⟩
      go_wp2_with fail
      refine (unfold_any x _ (by omega) (by have := Hx.out; omega)).mono ?_
      rintro e v3 ⟨rfl, rfl⟩
      go_wp2_with fail
      refine (runfold_any x _ (by omega) (by have := Hx.out; omega)).mono ?_
      rintro e v3 ⟨rfl, rfl⟩
      go_wp2
      go_ret
      exact ⟨rfl, hvv⟩
end Go.Proofs.Ytfojelnnjhmggaa
