/-
  num: the walk of NumGets.
-/
import Derived.Test.YtfojelnnjhmggaaRefGet
namespace Go.Proofs.Ytfojelnnjhmggaa
open Go.RowKit

theorem runfold_of (n : Int) (r : Int) (w : World) (hr : r = unfoldI n) (h0 : 0 ≤ n) (h1 : n < 18446744073709551616) :
    Calls Try.prog 28 #[.int .u64 n] w fun e w' => e = .returned (.int .i64 r) ∧ w = w' := by
  subst hr
  exact runfold_any n w h0 h1
set_option maxRecDepth 100000 in
set_option maxHeartbeats 4000000 in
theorem gets_any {A : Option Addr} {n c : Nat} {b : List Nat} {w : World} (hL : Lies w 1 A n c (byt b)) (hB : ∀ y ∈ b, y < 256) :
    Calls Try.prog 8 #[.slice A n c] w fun e w' => e = .returned (.bool true) ∧ Below w.heap.size w w' := by
  obtain ⟨G, hG⟩ : ∃ G, G = gv b := ⟨_, rfl⟩
  obtain ⟨S, hS⟩ : ∃ S, S = gs b := ⟨_, rfl⟩
  obtain ⟨E, hE⟩ : ∃ E, E = ge b := ⟨_, rfl⟩
  obtain ⟨U, hU⟩ : ∃ U, U = unfoldI G := ⟨_, rfl⟩
  obtain ⟨V4, hV4⟩ : ∃ V, V = fv 4 b := ⟨_, rfl⟩
  obtain ⟨E4, hE4⟩ : ∃ V, V = fe 4 b := ⟨_, rfl⟩
  obtain ⟨V8, hV8⟩ : ∃ V, V = fv 8 b := ⟨_, rfl⟩
  obtain ⟨E8, hE8⟩ : ∃ V, V = fe 8 b := ⟨_, rfl⟩
  have h4 : V4 < 4294967296 := by
    rw [hV4]; unfold fv
    split
    · decide
    · exact lev_lt 4 b hB
  have h64 : G < 18446744073709551616 := by rw [hG]; exact gv_64 b hB
  have hz : E ≠ 0 → U = 0 := fun h => by
    have := (get_err (l := b) (by rw [← hE]; exact h)).1
    rw [hU, hG, this]; rfl
  have hw4 : IntKind.u64.wrap (V4 : Int) = (V4 : Int) := by rw [IntKind.wrap_u64]; omega
  have KG := Lib.hid hG; have KS := Lib.hid hS; have KE := Lib.hid hE; have KU := Lib.hid hU; have K4 := Lib.hid hV4; have K5 := Lib.hid hE4; have K6 := Lib.hid hV8; have K7 := Lib.hid hE8; have H64 := Lib.hid h64; have HZ := Lib.hid hz; have HB := Lib.hid hB; have H4 := Lib.hid h4
  clear hG hS hE hU hV4 hE4 hV8 hE8 h64 hz hB h4
  have hE01 : E = 0 ∨ ¬ E = 0 := by omega
  rcases hE01 with h0 | h0
  all_goals
    first
    | (have hq : ((E : Int) == 0) = true := by simp; omega
       have hq2 : ((E : Int) != 0) = false := by simp; omega
       have T := Lib.hid (Or.inl (b := U = 0) hq)
       clear h0)
    | (have hq : ((E : Int) == 0) = false := by simp; omega
       have hq2 : ((E : Int) != 0) = true := by simp; omega
       have hu0 : U = 0 := HZ.out h0
       have T := Lib.hid (Or.inr (a := ((E : Int) == 0) = true) hu0)
       clear h0)
    go_enter Try.func8, Try.ntmps8
    go_wp2_with fail
    refine (get_at b G S E hL HB.out (by rw [KG.out]) (by rw [KS.out]) (by rw [KE.out])).mono ?_
    rintro e w1 ⟨rfl, rfl⟩
    go_wp2_with fail
    refine (rget_any (l := b) G S E (by rw [KG.out]) (by rw [KS.out]) (by rw [KE.out]) hL HB.out).mono ?_
    rintro e w1 ⟨rfl, rfl⟩
    go_wp2_with fail
    refine (getint_at b U S E hL HB.out (by rw [KU.out, KG.out]) (by rw [KS.out]) (by rw [KE.out])).mono ?_
    rintro e w1 ⟨rfl, rfl⟩
    go_wp2_with fail
    refine (get4_at b V4 E4 hL HB.out (by rw [K4.out]) (by rw [K5.out])).mono ?_
    rintro e w1 ⟨rfl, rfl⟩
    go_wp2_with fail
    refine (rfixed_any (s := 4) (l := b) 4 V4 E4 rfl (by decide) (by rw [K4.out]) (by rw [K5.out]) hL HB.out).mono ?_
    rintro e w1 ⟨rfl, rfl⟩
    go_wp2_with fail
    refine (get8_at b V8 E8 hL HB.out (by rw [K6.out]) (by rw [K7.out])).mono ?_
    rintro e w1 ⟨rfl, rfl⟩
    go_wp2_with fail
    refine (rfixed_any (s := 8) (l := b) 8 V8 E8 rfl (by decide) (by rw [K6.out]) (by rw [K7.out]) hL HB.out).mono ?_
    rintro e w1 ⟨rfl, rfl⟩
    go_wp2_with fail
    try
      refine (runfold_of (G : Int) U _ (by rw [KU.out]) (by omega) (by have := H64.out; omega)).mono ?_
      rintro e w1 ⟨rfl, rfl⟩
      go_wp2_with fail
    refine awake_any.mono ?_
    rintro e w1 ⟨rfl, hb1⟩
    go_wp2
    go_ret
    refine ⟨?_, hb1⟩
    first | rfl | (simp; done)
end Go.Proofs.Ytfojelnnjhmggaa
