/-
  num: the walk of NumBack.
-/
import Derived.Test.YtfojelnnjhmggaaApp
namespace Go.Proofs.Ytfojelnnjhmggaa
open Go.RowKit

theorem below_drawn {B : Nat} {a w : World} (h : Below B a w) (n : Nat) : Below B a (w.drewN n) := ⟨h.os, h.tape, h.output, h.size, h.block⟩
set_option maxRecDepth 100000 in
set_option maxHeartbeats 4000000 in
theorem back_any {x : Nat} {A : Option Addr} {n c : Nat} {b : List Nat} {w : World} (hx : x < 18446744073709551616) (hL : Lies w 1 A n c (byt b)) (hB : ∀ y ∈ b, y < 256) (hr : c * 1 ≤ 140737488351232) :
    Calls Try.prog 9 #[.int .u64 x, .slice A n c] w fun e w' => e = .returned (.bool true) ∧ Below w.heap.size w w' := by
  have hle := hL.le
  have hX := bts_ten hx
  obtain ⟨y, hy⟩ : ∃ y, y = wrap64 (x : Int) := ⟨_, rfl⟩
  have hy1 : -9223372036854775808 ≤ y ∧ y ≤ 9223372036854775807 := by rw [hy]; unfold wrap64; omega
  have hfb := foldI_bd hy1.1 hy1.2
  obtain ⟨f, hf⟩ := Int.eq_ofNat_of_zero_le hfb.1
  have hF := bts_ten (n := f) (by omega)
  have gX := get_bts x hx b
  have gF := get_bts f (by omega) b
  have bX : ∀ z ∈ bts x ++ b, z < 256 := fun z hz => (List.mem_append.1 hz).elim (bts_bytes x (by have := pow64; omega) z) (hB z)
  have bF : ∀ z ∈ bts f ++ b, z < 256 := fun z hz => (List.mem_append.1 hz).elim (bts_bytes f (by have := pow64; omega) z) (hB z)
  obtain ⟨u, hu⟩ : ∃ u : Nat, u = x % 4294967296 := ⟨_, rfl⟩
  have hui : (x : Int) % 4294967296 = (u : Int) := by omega
  have g4 := fix_back 4 u b (by omega)
  have g8 := fix_back 8 x b (by omega)
  have b4 : ∀ z ∈ le 4 u ++ b, z < 256 := fun z hz => (List.mem_append.1 hz).elim (le_bytes 4 u z) (hB z)
  have b8 : ∀ z ∈ le 8 x ++ b, z < 256 := fun z hz => (List.mem_append.1 hz).elim (le_bytes 8 x z) (hB z)
  obtain ⟨X, eX⟩ : ∃ X, X = (bts x).length := ⟨_, rfl⟩
  obtain ⟨F, eF⟩ : ∃ F, F = (bts f).length := ⟨_, rfl⟩
  have hu2 : u < 4294967296 := by omega
  have hf2 : f < 18446744073709551616 := by omega
  rw [← eX] at hX gX
  rw [← eF] at hF gF
  have K := Lib.hid (And.intro hx (And.intro hy.symm (And.intro hf (And.intro gX (And.intro gF (And.intro g4 (And.intro g8 (And.intro eX (And.intro eF (And.intro hu2 hf2))))))))))
  obtain ⟨Hx, Hy, Hf, HgX, HgF, Hg4, Hg8, HeX, HeF, Hu2, Hf2⟩ : Hid (x < 18446744073709551616) ∧ Hid (wrap64 (x : Int) = y) ∧ Hid (foldI y = (f : Int)) ∧ Hid (gv (bts x ++ b) = x ∧ gs (bts x ++ b) = X ∧ ge (bts x ++ b) = 0) ∧ Hid (gv (bts f ++ b) = f ∧ gs (bts f ++ b) = F ∧ ge (bts f ++ b) = 0) ∧ Hid (fv 4 (le 4 u ++ b) = u ∧ fe 4 (le 4 u ++ b) = 0) ∧ Hid (fv 8 (le 8 x ++ b) = x ∧ fe 8 (le 8 x ++ b) = 0) ∧ Hid (X = (bts x).length) ∧ Hid (F = (bts f).length) ∧ Hid (u < 4294967296) ∧ Hid (f < 18446744073709551616) := K
  have hyw := hy.symm
  have HbX := Lib.hid bX; have HbF := Lib.hid bF; have Hb4 := Lib.hid b4; have Hb8 := Lib.hid b8; have HB := Lib.hid hB
  clear hx hy hf gX gF g4 g8 eX eF hfb hu hu2 hf2 bX bF b4 b8 hB
  go_enter Try.func9, Try.ntmps9
  go_wp2_with fail
  refine (put_at (l := []) x x X (bts x) rfl rfl (by rw [HeX.out]; omega) (Lies.nil _ _) Hx.out (by decide)).mono ?_
  rintro e w1 ⟨A1, c1, rfl, -, L1, hb1⟩
  have hl1 := hL.below hb1 (Nat.le_refl _)
  go_wp2_with (first
    | (at_builtin; refine wpList_app8 rfl (.tmp 20) (.tmp 21) rfl w.heap.size _ 0 [] rfl (own_empty8 w1 hb1.size rfl) A1 X c1 (bts x) rfl (L1.alloc _) (by omega) (by have := hb1.size; simp; omega) ?_; intro A2 c2 w2 own2 L2 bel2; have hb2 := bel2 _ _ (hb1.alloc hb1.size _) (Nat.le_refl _); clear bel2; simp only [Nat.zero_add, List.nil_append] at own2 L2)
    | (at_builtin; refine wpList_app8 rfl (.tmp 22) (.tmp 23) rfl w.heap.size _ X (bts x) rfl own2 A n c b rfl (hL.below hb2 (Nat.le_refl _)) (by omega) hb2.size ?_; intro A3 c3 w3 own3 L3 bel3; have hb3 := bel3 _ _ hb2 (Nat.le_refl _); clear bel3))
  refine (get_at _ x X 0 L3 HbX.out (by rw [HgX.out.1]) (by rw [HgX.out.2.1]) (by rw [HgX.out.2.2]; rfl)).mono ?_
  rintro e w3' ⟨rfl, rfl⟩
  clear own2 L2 hb2 own3 L3 hl1 L1
  go_wp2_with fail
  refine (putint_at (l := []) y f F (bts f) Hf.out rfl (by rw [HeF.out]; omega) (Lies.nil _ _) hy1.1 hy1.2 (by decide)).mono ?_
  rintro e w4 ⟨A4, c4, rfl, own4, -, hb4⟩
  have hb4' := hb3.trans (hb4.mono hb3.size)
  clear hb4
  go_wp2_with (at_builtin; refine wpList_app8 rfl (.tmp 32) (.tmp 33) rfl w.heap.size _ F (bts f) rfl (own4.mono hb3.size) A n c b rfl (hL.below hb4' (Nat.le_refl _)) (by omega) hb4'.size ?_; intro A5 c5 w5 own5 L5 bel5; have hb5 := bel5 _ _ hb4' (Nat.le_refl _); clear bel5)
  refine (getint_at _ y F 0 L5 HbF.out (by rw [HgF.out.1, ← Hf.out, unfold_fold]) (by rw [HgF.out.2.1]) (by rw [HgF.out.2.2]; rfl)).mono ?_
  rintro e w5' ⟨rfl, rfl⟩
  clear own4 own5 L5 hb4' hb3
  go_wp2_with fail
  refine (put4_at (l := []) u u 4 (le 4 u) rfl rfl rfl (Lies.nil _ _) Hu2.out (by decide)).mono ?_
  rintro e w6 ⟨A6, c6, rfl, own6, -, hb6⟩
  have hb6' := hb5.trans (hb6.mono hb5.size)
  clear hb6
  go_wp2_with (at_builtin; refine wpList_app8 rfl (.tmp 42) (.tmp 43) rfl w.heap.size _ 4 (le 4 u) rfl (own6.mono hb5.size) A n c b rfl (hL.below hb6' (Nat.le_refl _)) (by omega) hb6'.size ?_; intro A7 c7 w7 own7 L7 bel7; have hb7 := bel7 _ _ hb6' (Nat.le_refl _); clear bel7)
  refine (get4_at _ u 0 L7 Hb4.out (by rw [Hg4.out.1]) (by rw [Hg4.out.2]; rfl)).mono ?_
  rintro e w7' ⟨rfl, rfl⟩
  clear own6 own7 L7 hb6' hb5
  go_wp2_with fail
  refine (put8_at (l := []) x x 8 (le 8 x) rfl rfl rfl (Lies.nil _ _) Hx.out (by decide)).mono ?_
  rintro e w8 ⟨A8, c8, rfl, own8, -, hb8⟩
  have hb8' := hb7.trans (hb8.mono hb7.size)
  clear hb8
  go_wp2_with (at_builtin; refine wpList_app8 rfl (.tmp 50) (.tmp 51) rfl w.heap.size _ 8 (le 8 x) rfl (own8.mono hb7.size) A n c b rfl (hL.below hb8' (Nat.le_refl _)) (by omega) hb8'.size ?_; intro A9 c9 w9 own9 L9 bel9; have hb9 := bel9 _ _ hb8' (Nat.le_refl _); clear bel9)
  refine (get8_at _ x 0 L9 Hb8.out (by rw [Hg8.out.1]) (by rw [Hg8.out.2]; rfl)).mono ?_
  rintro e w9' ⟨rfl, rfl⟩
  clear own8 own9 L9 hb8' hb7
  go_wp2_with fail
  refine (size_at x X _ (by omega) (by have := Hx.out; omega) (by rw [Int.toNat_natCast, HeX.out])).mono ?_
  rintro e w10 ⟨rfl, rfl⟩
  go_wp2_with fail
  refine (fold_at y f _ Hf.out hy1.1 hy1.2).mono ?_
  rintro e w10 ⟨rfl, rfl⟩
  go_wp2_with fail
  refine (size_at f F _ (by omega) (by have := Hf2.out; omega) (by rw [Int.toNat_natCast, HeF.out])).mono ?_
  rintro e w10 ⟨rfl, rfl⟩
  go_wp2_with fail
  by_cases hE : ge b = 0
  · obtain ⟨s1, s2, s3⟩ := get_back HB.out hE
    have hg64 := gv_64 b HB.out
    have hln := hL.bytes_len
    obtain ⟨S, hS⟩ : ∃ S, S = gs b := ⟨_, rfl⟩
    obtain ⟨G, hG⟩ : ∃ G, G = gv b := ⟨_, rfl⟩
    rw [← hS] at s1 s2 s3
    rw [← hG] at s3 hg64
    have hsn : S ≤ n := by omega
    have hs10 : S ≤ 10 := by omega
    have hbl : (bts G).length = S := by rw [s3]; simp; omega
    have HE := Lib.hid hE; have HS := Lib.hid hS; have HG := Lib.hid hG; have H3 := Lib.hid s3; have HBL := Lib.hid hbl; have HG64 := Lib.hid hg64
    have hd1 : decide ((1 : Int) ≤ S) = true := by simp; omega
    have hd2 : decide ((S : Int) ≤ min (n : Int) 10) = true := by simp; omega
    have i1 : (0 : Int) ≤ S := by omega
    have i2 : (S : Int) ≤ n := by omega
    have i3 : (S : Int) ≤ c := by omega
    clear hE hS hG s3 hbl s2 hln hg64
    have htk := hL.below hb9 (Nat.le_refl _)
    refine (get_at _ G S 0 htk HB.out (by rw [HG.out]) (by rw [HS.out]) (by rw [HE.out]; rfl)).mono ?_
    rintro e w10 ⟨rfl, rfl⟩
    go_wp2_with fail
    go_region_held3 (fun _ => True) (trivial) (first
      | (go_at_call 11; refine awake_any.mono ?_; rintro e w11 ⟨rfl, hb11⟩; have hbA : Below w.heap.size w w11 := (by first | exact hb9.trans (hb11.mono hb9.size) | exact hb9.drew.trans (hb11.mono hb9.size) | exact (below_drawn hb9 _).trans (hb11.mono hb9.size)))
      | (go_at_call 13; refine (put_at (l := []) G G S (bts G) rfl rfl (by rw [HBL.out]; omega) (Lies.nil _ _) HG64.out (by decide)).mono ?_; rintro e w12 ⟨A12, c12, rfl, -, L12, hb12⟩; have hbB := hbA.trans (hb12.mono hbA.size))
      | (go_at_call 18; refine (equal_at (bts G) (b.take S) true L12 ((hL.below hbB (Nat.le_refl _)).takeb S hsn) (bts_bytes G (by have := pow64; have := HG64.out; omega)) (fun z hz => HB.out z (List.mem_of_mem_take hz)) (by rw [H3.out]; simp)).mono ?_; rintro e w13 ⟨rfl, rfl⟩))
    go_wp2
    go_ret
    exact ⟨rfl, hbB⟩
  · have hz := get_err hE
    obtain ⟨E, hEe⟩ : ∃ E, E = ge b := ⟨_, rfl⟩
    have hE0 : ((E : Int) == 0) = false := by simp; omega
    have HE := Lib.hid hEe; have HZ := Lib.hid hz
    clear hEe hz hE
    have hE1 : ((E : Int) != 0) = true := by simp at hE0 ⊢; omega
    refine (get_at _ 0 0 E (hL.below hb9 (Nat.le_refl _)) HB.out (by rw [HZ.out.1]; rfl) (by rw [HZ.out.2]; rfl) (by rw [HE.out])).mono ?_
    rintro e w10 ⟨rfl, rfl⟩
    go_wp2_with fail
    refine awake_any.mono ?_
    rintro e w11 ⟨rfl, hb11⟩
    go_wp2
    go_ret
    exact ⟨rfl, hb9.trans (hb11.mono hb9.size)⟩
end Go.Proofs.Ytfojelnnjhmggaa
