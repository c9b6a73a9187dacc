/-
  past: the contract of the law's wakes.
-/
import Derived.Test.YtfpbmpgdpnpdjaaPWake
namespace Go.Proofs.Ytfpbmpgdpnpdjaa
open Go.RowKit
set_option linter.unusedSimpArgs false

theorem push_at {p q n c : Nat} {A : Option Addr} {us : List U} {cl rq m m2 z : Int} {un : Bool} {os os2 : List O} {lens lens2 : List Int} {S : Nat → Prop} {w : World} (hP : PastIs w S p q os lens) (hL : Lies w 5 A n c (uns us)) (hA : ∀ a, A = some a → 0 < n → ¬ S a.block) (hn : n * 40 ≤ 140737488355328)
    (hm : lens[os.length]? = some m) (hlong : longV us m = (m2, 0)) (h0 : 0 ≤ m) (hm2 : m ≤ 2305843009213693952) (hq : q + os.length < 1099511627776) (hk : os.length < 256)
    (hz : (q : Int) + ((os.length + 1 : Nat) : Int) = z) (ho : os ++ [⟨cl, rq, us, un⟩] = os2) (hl : lens ++ [m2] = lens2) :
    Calls Try.prog 32 #[.pointer (some ⟨p, 0, none⟩), .agg #[.int .u32 cl, .int .u64 rq, .slice A n c, .bool un]] w fun e w' =>
      e = .returned (.tuple #[.int .u64 z, .int .i64 0]) ∧ PastIs w' (plus S w w') p q os2 lens2 ∧ GrowS S w w' := by
  subst hz ho hl
  exact push_ok hP hL hA hn hm hlong h0 hm2 hq hk
theorem new_at {q : Nat} {m z : Int} {w : World} (hz : (q : Int) = z) (hq : q ≤ 1099511627776) (hm : 0 ≤ m) :
    Calls Try.prog 30 #[.int .u64 z, .int .i64 m] w fun e w' => ∃ p : Nat, e = .returned (.tuple #[.pointer (some ⟨p, 0, none⟩), .int .i64 0]) ∧ PastIs w' (anew w w') p q [] [m] ∧ Grow w w' := by
  subst hz
  exact new_ok hq hm
theorem undo_at {p q j : Nat} {r z : Int} {o : O} {os os2 : List O} {lens : List Int} {S : Nat → Prop} {w : World} (hP : PastIs w S p q os lens) (hk : os.length ≤ 256) (hq : q ≤ 2305843009213693952) (ho : os[j]? = some o) (hr : r = (q : Int) + ((j + 1 : Nat) : Int)) (hz : (if o.un then 34 else 0) = z) (h2 : undoO os j = os2) :
    Calls Try.prog 42 #[.pointer (some ⟨p, 0, none⟩), .int .u64 r] w fun e w' => e = .returned (.int .i64 z) ∧ PastIs w' S p q os2 lens ∧ GrowS S w w' := by
  subst hz h2
  exact undo_ok hP hk hq ho hr
theorem pnow_at {p q : Nat} {z : Int} {os : List O} {lens : List Int} {S : Nat → Prop} {w : World} (hP : PastIs w S p q os lens) (hq : q ≤ 2305843009213693952) (hk : os.length ≤ 256) (hz : (q : Int) + (os.length : Int) = z) :
    Calls Try.prog 31 #[.pointer (some ⟨p, 0, none⟩)] w fun e w' => e = .returned (.int .u64 z) ∧ w = w' := by
  obtain ⟨V, l, B, hos, hP⟩ := hP
  obtain ⟨A, c, rfl⟩ := hP.formV
  subst hos hz
  rw [List.length_map] at hk ⊢
  exact pnow_any hP.c0 hP.c1 hP.c3 hq (by omega)
theorem plen_at {p q : Nat} {os : List O} {lens : List Int} {S : Nat → Prop} {w : World} (hP : PastIs w S p q os lens) :
    Calls Try.prog 37 #[.pointer (some ⟨p, 0, none⟩)] w fun e w' => e = .returned (.int .i64 (os.length : Int)) ∧ w = w' := by
  obtain ⟨V, l, B, hos, hP⟩ := hP
  obtain ⟨A, c, rfl⟩ := hP.formV
  subst hos
  rw [List.length_map]
  exact plen_any hP.c1 hP.c3
theorem pfrom_at {p q : Nat} {os : List O} {lens : List Int} {S : Nat → Prop} {w : World} (hP : PastIs w S p q os lens) :
    Calls Try.prog 36 #[.pointer (some ⟨p, 0, none⟩)] w fun e w' => e = .returned (.int .u64 (q : Int)) ∧ w = w' := by
  obtain ⟨V, l, B, hos, hP⟩ := hP
  exact pfrom_any hP.c0 hP.c3
theorem OpsOwn.n {w : World} {S : Nat → Prop} {A : Option Addr} {n c : Nat} {l : List (O × Value)} (h : OpsOwn w S (.slice A n c) l) : n = l.length := own_len h.row

theorem Below.setRow' {w : World} {g : Nat} {cs : Array Value} {t : TypeId} (h : w.heap[g]? = some (.cells cs t (0, 0))) : Grow w (w.setRow g cs) := by
  rw [setRow_self w g cs t (0, 0) h]
  exact Grow.refl _

set_option maxRecDepth 100000 in
set_option maxHeartbeats 1000000 in
theorem wakes10 {w : World} : Calls Try.prog 41 #[] w fun e w' => e = .returned (.bool true) ∧ Grow w w' := by
  go_enter Try.func41, Try.ntmps41
  go_wp2_with fail
  refine (new_at (q := 7) rfl (by omega) (by omega)).mono ?_
  rintro e w1 ⟨p, rfl, hP, g1⟩
  have P1 := Lib.hid hP; have G1 := Lib.hid g1
  clear hP g1
  go_wp2_with fail
  refine end_any.mono ?_
  rintro e w2 ⟨A, c, rfl, hL, hA, g2⟩
  have P2 := Lib.hid (P1.out.grow g2); have G2 := Lib.hid (G1.out.trans g2); have L2 := Lib.hid hL; have HA := Lib.hid hA; have E2 := Lib.hid g2
  clear hL hA g2
  go_wp2_with fail
  refine (push_at (z := 8) (os2 := [endO 3]) (lens2 := [3, 4]) P2.out L2.out (fun a ha _ hs => by have := HA.out a ha; have := hs.2; omega) (by omega) rfl (long_end (by omega) (by omega)) (by omega) (by omega) (by decide) (by decide) rfl rfl rfl).mono ?_
  rintro e w3 ⟨rfl, hP, g3⟩
  have P3 := Lib.hid hP
  have G3 := Lib.hid (g3.over G2.out (fun k hk => hk.1))
  have S3 : Hid (∀ k, plus (anew w w1) w2 w3 k → w.heap.size ≤ k) := fun k hk => hk.elim (fun h => h.1) (fun h => by have := G2.out.size; have := h.1; omega)
  clear hP g3
  go_wp2_with fail
  refine (push_at (z := 9) (os2 := [endO 3, nopO]) (lens2 := [3, 4, 4]) P3.out (Lies.nil _ _) (fun a ha => by cases ha) (by omega) rfl (long_nil 4) (by omega) (by omega) (by decide) (by decide) rfl rfl rfl).mono ?_
  rintro e w4 ⟨rfl, hP, g4⟩
  have P4 := Lib.hid hP
  have G4 := Lib.hid (g4.over G3.out S3)
  obtain ⟨S, hS⟩ : ∃ S, plus (plus (anew w w1) w2 w3) w3 w4 = S := ⟨_, rfl⟩
  have S4 : Hid (∀ k, S k → w.heap.size ≤ k) := fun k hk => by
    rw [← hS] at hk
    exact hk.elim (fun h => S3 k h) (fun h => by have := G3.out.size; have := h.1; omega)
  rw [hS] at P4
  clear hP g4 hS
  go_wp2_with fail
  refine (length_ok (d := 1) (m := 4) P4.out (by decide) (by decide) (by decide) rfl rfl).mono ?_
  rintro e w5 ⟨rfl, g5⟩
  have P5 := Lib.hid (P4.out.grow g5); have G5 := Lib.hid (G4.out.trans g5)
  clear g5
  go_wp2_with fail
  refine (since_ok (d := 1) P5.out (by decide) (by decide) (by decide) (by decide) rfl).mono ?_
  rintro e w6 ⟨A', n', c', l', rfl, hl', own6, g6⟩
  obtain rfl : n' = 1 := by rw [own6.n]; have := congrArg List.length hl'; simpa using this
  have P6 := Lib.hid (P5.out.grow g6); have G6 := Lib.hid (G5.out.trans g6)
  clear g6 hl' own6
  go_wp2_with fail
  refine (since_err (refuses_gone P6.out (by decide) (by decide) (by decide) (by decide) (.inl rfl) (by decide))).mono ?_
  rintro e w7 ⟨rfl, g7⟩
  have P7 := Lib.hid (P6.out.grow g7); have G7 := Lib.hid (G6.out.trans g7)
  clear g7
  go_wp2_with fail
  refine (since_err (refuses_rev P7.out (by decide) (by decide) (by decide))).mono ?_
  rintro e w8 ⟨rfl, g8⟩
  have P8 := Lib.hid (P7.out.grow g8); have G8 := Lib.hid (G7.out.trans g8)
  clear g8
  go_wp2_with fail
  refine (undo_at (j := 0) (o := endO 3) (z := 0) (os2 := [{ endO 3 with un := true }, nopO]) P8.out (by decide) (by decide) rfl rfl rfl rfl).mono ?_
  rintro e w9 ⟨rfl, hP, g9⟩
  have P9 := Lib.hid hP; have G9 := Lib.hid (g9.over G8.out S4)
  clear hP g9
  go_wp2_with fail
  refine (undo_at (j := 0) (o := { endO 3 with un := true }) (z := 34) (os2 := [{ endO 3 with un := true }, nopO]) P9.out (by decide) (by decide) rfl rfl rfl rfl).mono ?_
  rintro e w10 ⟨rfl, hP, g10⟩
  have P10 := Lib.hid hP; have G10 := Lib.hid (g10.over G9.out S4)
  clear hP g10
  go_wp2_with fail
  refine (patc_err (refuses_gone P10.out (by decide) (by decide) (by decide) (by decide) (.inr rfl) (by decide))).mono ?_
  rintro e w11 ⟨rfl, g11⟩
  have P11 := Lib.hid (P10.out.grow g11); have G11 := Lib.hid (G10.out.trans g11)
  clear g11
  have hb := heap_alloc_new w11 (.cells #[.int .u32 0, .int .u64 0, .slice none 0 0, .bool false] 67)
  have HB := Lib.hid hb
  clear hb
  go_wp2_with (
    refine wpList_store_row rfl _ _ _ rfl w11.heap.size #[.int .u32 0, .int .u64 0, .slice none 0 0, .bool false] rfl rfl _ _ HB.out (by kernel_rfl) rfl (by simp [Value.oneCell']) ?_
    have gs := (Grow.alloc w11 (.cells #[.int .u32 0, .int .u64 0, .slice none 0 0, .bool false] 67)).trans (Below.setRow' HB.out)
    have P12 := Lib.hid (P11.out.grow gs); have G12 := Lib.hid (G11.out.trans gs)
    clear gs
    generalize World.setRow _ w11.heap.size _ = w12 at *
    go_wp2_with fail
    refine (pnow_at (z := 9) P12.out (by decide) (by decide) rfl).mono ?_
    rintro e w13 ⟨rfl, rfl⟩
    go_wp2
    go_ret
    exact ⟨rfl, G12.out⟩)
end Go.Proofs.Ytfpbmpgdpnpdjaa

