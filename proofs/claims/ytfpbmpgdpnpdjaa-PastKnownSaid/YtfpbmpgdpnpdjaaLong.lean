/-
  past: the contract of weave.Long: its loop.
-/
import Derived.Test.YtfpbmpgdpnpdjaaLong2
namespace Go.Proofs.Ytfpbmpgdpnpdjaa
open Go.RowKit
set_option linter.unusedSimpArgs false

theorem longU_app : ∀ (a b : List U) (m : Int), longU (a ++ b) m = (longU a m).bind (longU b)
  | [], b, m => rfl
  | u :: a, b, m => by
    rw [List.cons_append, longU, longU]
    split
    · exact longU_app a b _
    · rfl
theorem longU_snoc {us : List U} {j : Nat} {u : U} {m m1 : Int} (hj : us[j]? = some u) (h : longU (us.take j) m = some m1) : longU (us.take (j + 1)) m = if fitsI u.k u.p m1 = true then some (m1 + growI u.k) else none := by
  rw [List.take_add_one, hj, longU_app, h]
  rfl
theorem longU_none {us : List U} {j : Nat} {m : Int} (h : longU (us.take j) m = none) : longU us m = none := by
  rw [← List.take_append_drop j us, longU_app, h]
  rfl
def longV (us : List U) (m : Int) : Int × Int :=
  if us.all mayU = true then match longU us m with | some k => (k, 0) | none => (0, 30)
  else (0, 1)
theorem longV_no {us : List U} {m : Int} (h : ¬ ∀ u ∈ us, mayU u = true) : longV us m = (0, 1) := by
  rw [longV, if_neg (by rw [List.all_eq_true]; exact h)]
theorem longV_none {us : List U} {m : Int} (h : ∀ u ∈ us, mayU u = true) (h2 : longU us m = none) : longV us m = (0, 30) := by
  rw [longV, if_pos (by rw [List.all_eq_true]; exact h), h2]
theorem longV_some {us : List U} {m k : Int} (h : ∀ u ∈ us, mayU u = true) (h2 : longU us m = some k) : longV us m = (k, 0) := by
  rw [longV, if_pos (by rw [List.all_eq_true]; exact h), h2]
def LongPost (us : List U) (m : Int) (w : World) (e : Ending) (w' : World) : Prop := e = .returned (.tuple #[.int .i64 (longV us m).1, .int .i64 (longV us m).2]) ∧ Grow w w'
theorem long_post {us : List U} {m a b : Int} {w w' : World} (h : longV us m = (a, b)) (g : Grow w w') : LongPost us m w (.returned (.tuple #[.int .i64 a, .int .i64 b])) w' := by
  refine ⟨?_, g⟩
  rw [h]
set_option maxRecDepth 100000 in
theorem long_any {A : Option Addr} {n c : Nat} {us : List U} {m : Int} {w : World} (hL : Lies w 5 A n c (uns us)) (hm : 0 ≤ m) (hm2 : m ≤ 2305843009213693952) (hreach : n ≤ 2305843009213693952) :
    Calls Try.prog 61 #[.slice A n c, .int .i64 m] w (LongPost us m w) := by
  have hle := hL.le
  have hbig := hL.big
  have hln := hL.uns_len
  have n0 : decide (m < 0) = false := by simp; omega
  have HL := Lib.hid hL; have HLN := Lib.hid hln
  obtain ⟨r, hr⟩ : ∃ r : Bool, (∀ c ∈ us, mayU c = true) ↔ r = false := by
    by_cases h : ∀ c ∈ us, mayU c = true
    · exact ⟨false, iff_of_true h rfl⟩
    · exact ⟨true, iff_of_false h (by decide)⟩
  have HR := Lib.hid hr
  clear hL hln hr
  go_enter Try.func61, Try.ntmps61
  go_wp2_with fail
  refine (ucontains_any r HR.out HL.out).mono ?_
  rintro e w0 ⟨rfl, g0⟩
  have G0 := Lib.hid g0
  clear g0
  cases r with
  | true =>
    have hno := Lib.hid (show ¬ ∀ u ∈ us, mayU u = true from fun h => by have := HR.out.1 h; cases this)
    go_wp2
    go_ret2
    exact long_post (longV_no hno.out) G0.out
  | false =>
    have hall := Lib.hid (HR.out.2 rfl)
    clear n0
    go_wp2
    go_loopw [1, 16] (fun s i wr => ∃ (j : Nat) (m1 : Int), j ≤ n ∧ i = .int .i64 j ∧ s = .int .i64 m1 ∧ Hid (longU (us.take j) m = some m1) ∧ 0 ≤ m1 ∧ m1 ≤ m + j ∧ Grow w wr) (fun _ i _ => n - (intOf i).toNat)
    case atStart => exact ⟨0, m, Nat.zero_le _, rfl, rfl, rfl, hm, by omega, G0.out⟩
    case round =>
      obtain ⟨j, m1, hj, rfl, rfl, hlu, h0, h1, hg⟩ := hrel
      by_cases hlt : j < n
      · obtain ⟨u, hu⟩ : ∃ u, us[j]? = some u := ⟨_, List.getElem?_eq_getElem (by have := HLN.out; omega)⟩
        obtain ⟨b, off, rfl, hbs, hcell⟩ := HL.out.pos (by omega) (by decide)
        obtain ⟨x0, x1, x2, x3, x4⟩ := HL.out.unit_cells hu wr hg
        have hs := longU_snoc hu hlu.out
        have hmu := hall.out u (List.mem_of_getElem? hu)
        obtain ⟨uk, up, uc, ucl, urq⟩ := u
        simp only at x0 x1 x2 x3 x4 hs
        have hpos := mayU_p hmu
        simp only at hpos
        have G1 := Lib.hid hg; have HS := Lib.hid hs; have HM := Lib.hid hmu
        obtain ⟨f, hf⟩ : ∃ f, fitsI uk up m1 = f := ⟨_, rfl⟩
        have HF := Lib.hid hf
        clear hu hcell hg hs hmu
        cases f with
        | false =>
          have HN := Lib.hid (longU_none (by rw [HS.out, HF.out]; rfl))
          clear hf
          go_wp2_with fail
          refine (fits_at HM.out h0).mono ?_
          rw [HF.out]
          rintro e w1 ⟨rfl, g1⟩
          have y0 := grow_cell (cell_of_row _ wr.heap.size 0 _ _ (0, 0) (heap_alloc_new wr _)) g1
          have G2 := Lib.hid (G1.out.trans ((Grow.alloc _ _).trans g1))
          clear g1 x0 x1 x2 x3 x4
          go_wp2
          go_ret2
          exact long_post (longV_none hall.out HN.out) G2.out
        | true =>
          have hk := mayU_k HM.out
          simp only at hk
          have HS2 := Lib.hid (show longU (us.take (j + 1)) m = some (m1 + growI uk) by rw [HS.out, HF.out]; rfl)
          rcases hk with rfl | rfl | rfl
          · clear hf
            go_wp2_with fail
            refine (fits_at HM.out h0).mono ?_
            rw [HF.out]
            rintro e w1 ⟨rfl, g1⟩
            have y0 := grow_cell (cell_of_row _ wr.heap.size 0 _ _ (0, 0) (heap_alloc_new wr _)) g1
            have G2 := Lib.hid (G1.out.trans ((Grow.alloc _ _).trans g1))
            clear g1 x0 x1 x2 x3 x4
            go_wp2
            go_roundw
            case rel => exact ⟨j + 1, m1, by omega, by go_num, rfl, Lib.hid (by rw [HS2.out]; simp [growI]), h0, by omega, G2.out⟩
            case measure => simp [intOf]; omega
          · clear hf
            have wa := Lib.hid (show wrap64 (m1 + 1) = m1 + 1 from wrap_in (by omega) (by omega))
            go_wp2_with fail
            refine (fits_at HM.out h0).mono ?_
            rw [HF.out]
            rintro e w1 ⟨rfl, g1⟩
            have y0 := grow_cell (cell_of_row _ wr.heap.size 0 _ _ (0, 0) (heap_alloc_new wr _)) g1
            have G2 := Lib.hid (G1.out.trans ((Grow.alloc _ _).trans g1))
            clear g1 x0 x1 x2 x3 x4
            have wa := wa.out
            go_wp2
            clear wa
            go_roundw
            case rel => exact ⟨j + 1, m1 + 1, by omega, by go_num, by go_num, Lib.hid (by rw [HS2.out]; simp [growI]), by omega, by omega, G2.out⟩
            case measure => simp [intOf]; omega
          · have hlt2 : up < m1 := by simpa [fitsI] using hf
            clear hf
            have wa := Lib.hid (show wrap64 (m1 - 1) = m1 - 1 from wrap_in (by omega) (by omega))
            go_wp2_with fail
            refine (fits_at HM.out h0).mono ?_
            rw [HF.out]
            rintro e w1 ⟨rfl, g1⟩
            have y0 := grow_cell (cell_of_row _ wr.heap.size 0 _ _ (0, 0) (heap_alloc_new wr _)) g1
            have G2 := Lib.hid (G1.out.trans ((Grow.alloc _ _).trans g1))
            clear g1 x0 x1 x2 x3 x4
            have wa := wa.out
            go_wp2
            clear wa
            go_roundw
            case rel => exact ⟨j + 1, m1 - 1, by omega, by go_num, by go_num, Lib.hid (by rw [HS2.out]; simp [growI]; omega), by omega, by omega, G2.out⟩
            case measure => simp [intOf]; omega
      · obtain rfl : j = n := by omega
        have e : us.take j = us := List.take_of_length_le (by have := HLN.out; omega)
        have HLU := Lib.hid (show longU us m = some m1 by have := hlu.out; rwa [e] at this)
        have G1 := Lib.hid hg
        clear e hg hlu
        go_wp2
        go_ret2
        exact long_post (longV_some hall.out HLU.out) G1.out
end Go.Proofs.Ytfpbmpgdpnpdjaa

