/-
  utf: the contracts of May, Size.
-/
import Derived.Test.YtbphdojjddnljaaDoorMem
import Derived.Test.YtbphdojjddnljaaDoorFacts
import Derived.Test.YtbphdojjddnljaaDoorPlain
import Derived.Test.YtbphdojjddnljaaDoorRows
import Derived.Outline
import Derived.Deep.MidRow
import Derived.Laws.BitsAllLaws
import Derived.IntWalk
namespace Go.Proofs.YtbphdojjddnljaaDoor
open Go.RowKit

theorem ret_int {k : IntKind} {a b : Int} (h : a = b) : Ending.returned (.int k a) = .returned (.int k b) := by rw [h]
theorem then_ {a b c : World} (h : Below a.heap.size a b) (k : Below b.heap.size b c) : Below a.heap.size a c := h.trans (k.mono h.size)
/-- The table's cells. -/
def forms : List Value := [.int .i32 127, .int .u8 0, .int .u64 7, .int .i32 2047, .int .u8 192, .int .u64 5, .int .i32 65535, .int .u8 224, .int .u64 4, .int .i32 1114111, .int .u8 240, .int .u64 3]
def Tab (w : World) : Prop := w.rangeAt 0 0 forms
theorem Tab.cell {w : World} (h : Tab w) (j : Nat) {v : Value} (hv : forms[j]? = some v) : w.cell? ⟨0, j, none⟩ = some v := by
  have := h j v hv
  rwa [Nat.zero_add] at this
theorem Tab.pos {w : World} (h : Tab w) : 0 < w.heap.size := World.block_lt_of_cell? w _ (h.cell 0 (v := .int .i32 127) rfl)
theorem Tab.below {w w' : World} {B : Nat} (h : Tab w) (hb : Below B w w') (hB : 0 < B) : Tab w' := fun j v hv => (hb.cell (p := ⟨0, 0 + j, none⟩) hB).trans (h j v hv)
theorem Tab.same {w w' : World} (h : Tab w) (hb : Below w.heap.size w w') : Tab w' := h.below hb h.pos
theorem Tab.alloc {w : World} (h : Tab w) (o : Obj) : Tab (w.alloc o) := h.same ((Below.refl _ _).alloc (Nat.le_refl _) o)

theorem may_any {c : Int} {w : World} : Calls Tryd.prog 16 #[.int .i32 c] w fun e w' => e = .returned (.bool (mayI c)) ∧ w = w' := by
  have hm := mayI_iff c
  by_cases h1 : 0 ≤ c
  · by_cases h2 : c ≤ 1114111
    · by_cases h3 : c < 55296
      · have e : mayI c = true := hm.2 ⟨h1, h2, .inl h3⟩
        have HE := Lib.hid e
        clear hm e
        go_enter Tryd.func16, Tryd.ntmps16
        go_wp2
        go_ret
        exact ⟨by rw [HE.out]; rfl, rfl⟩
      · by_cases h4 : 57343 < c
        · have e : mayI c = true := hm.2 ⟨h1, h2, .inr h4⟩
          have HE := Lib.hid e
          clear hm e
          go_enter Tryd.func16, Tryd.ntmps16
          go_wp2
          go_ret
          exact ⟨by rw [HE.out]; rfl, rfl⟩
        · have e : mayI c = false := by
            cases hx : mayI c with
            | false => rfl
            | true => have := hm.1 hx; omega
          have HE := Lib.hid e
          clear hm e
          go_enter Tryd.func16, Tryd.ntmps16
          go_wp2
          go_ret
          exact ⟨by rw [HE.out]; rfl, rfl⟩
    · have e : mayI c = false := by
        cases hx : mayI c with
        | false => rfl
        | true => have := hm.1 hx; omega
      have HE := Lib.hid e
      clear hm e
      go_enter Tryd.func16, Tryd.ntmps16
      go_wp2
      go_ret
      exact ⟨by rw [HE.out]; rfl, rfl⟩
  · have e : mayI c = false := by
      cases hx : mayI c with
      | false => rfl
      | true => have := hm.1 hx; omega
    have HE := Lib.hid e
    clear hm e
    go_enter Tryd.func16, Tryd.ntmps16
    go_wp2
    go_ret
    exact ⟨by rw [HE.out]; rfl, rfl⟩
theorem may_at {c : Int} {w : World} (r : Bool) (h : mayI c = r) : Calls Tryd.prog 16 #[.int .i32 c] w fun e w' => e = .returned (.bool r) ∧ w = w' := by
  subst h; exact may_any

theorem idx_forms : ∀ w : World, (Instr.index 54 (.agg forms.toArray) (.int .i64 0)).run Tryd.prog w = .ok (.agg #[.int .i32 127, .int .u8 0, .int .u64 7]) w ∧ (Instr.index 54 (.agg forms.toArray) (.int .i64 1)).run Tryd.prog w = .ok (.agg #[.int .i32 2047, .int .u8 192, .int .u64 5]) w ∧
    (Instr.index 54 (.agg forms.toArray) (.int .i64 2)).run Tryd.prog w = .ok (.agg #[.int .i32 65535, .int .u8 224, .int .u64 4]) w ∧ (Instr.index 54 (.agg forms.toArray) (.int .i64 3)).run Tryd.prog w = .ok (.agg #[.int .i32 1114111, .int .u8 240, .int .u64 3]) w :=
  fun _ => ⟨by kernel_rfl, by kernel_rfl, by kernel_rfl, by kernel_rfl⟩
theorem info_forms : (Tryd.prog.info? 54).map (·.size) = some forms.length := by kernel_rfl
def fmost (k : Nat) : Int := match k with | 0 => 127 | 1 => 2047 | 2 => 65535 | _ => 1114111
theorem szN_at (c : Nat) : (c ≤ 127 → szN c ≤ 1) ∧ (c ≤ 2047 → szN c ≤ 2) ∧ (c ≤ 65535 → szN c ≤ 3) ∧ (¬ c ≤ 127 → 1 < szN c) ∧ (¬ c ≤ 2047 → 2 < szN c) ∧ (¬ c ≤ 65535 → 3 < szN c) := by
  unfold szN
  split <;> (try split) <;> (try split) <;> omega
set_option maxRecDepth 100000 in
theorem size_yes {c : Nat} {w : World} (hT : Tab w) (hm : mayI (c : Int) = true) : Calls Tryd.prog 18 #[.int .i32 (c : Int)] w fun e w' => e = .returned (.int .i64 (szN c)) ∧ Grow w w' := by
  obtain ⟨S, hS⟩ : ∃ S, szN c = S := ⟨_, rfl⟩
  have hc := may_le hm
  have HM := Lib.hid hm; have HT := Lib.hid hT; have HS := Lib.hid hS
  have fo : ∃ F, forms.toArray = F := ⟨_, rfl⟩
  obtain ⟨F, hF⟩ := fo
  have i0 : ∀ w : World, (Instr.index 54 (.agg F) (.int .i64 0)).run Tryd.prog w = .ok (.agg #[.int .i32 127, .int .u8 0, .int .u64 7]) w := fun w => by rw [← hF]; exact (idx_forms w).1
  have i1 : ∀ w : World, (Instr.index 54 (.agg F) (.int .i64 1)).run Tryd.prog w = .ok (.agg #[.int .i32 2047, .int .u8 192, .int .u64 5]) w := fun w => by rw [← hF]; exact (idx_forms w).2.1
  have i2 : ∀ w : World, (Instr.index 54 (.agg F) (.int .i64 2)).run Tryd.prog w = .ok (.agg #[.int .i32 65535, .int .u8 224, .int .u64 4]) w := fun w => by rw [← hF]; exact (idx_forms w).2.2.1
  have i3 : ∀ w : World, (Instr.index 54 (.agg F) (.int .i64 3)).run Tryd.prog w = .ok (.agg #[.int .i32 1114111, .int .u8 240, .int .u64 3]) w := fun w => by rw [← hF]; exact (idx_forms w).2.2.2
  have HF := Lib.hid hF
  clear hm hT hS hF
  go_enter Tryd.func18, Tryd.ntmps18
  go_wp2_with fail
  refine (may_at true HM.out).mono ?_
  rintro e w1 ⟨rfl, rfl⟩
  go_wp2_with (refine wpList_load_mid rfl 54 _ rfl 0 0 rfl forms _ HT.out Tryd.underlying54 rfl info_forms ?_; rw [HF.out])
  go_loopw [9] (fun i wr => ∃ k : Nat, k ≤ 4 ∧ i = .int .i64 k ∧ Hid (k < S) ∧ Below w.heap.size w wr) (fun i _ => 4 - (intOf i).toNat)
  case atStart => exact ⟨0, by omega, rfl, by have := szN_bd c; have := HS.out; show 0 < S; omega, Below.refl _ _⟩
  case round =>
    obtain ⟨k, hk, rfl, hlt, hb⟩ := hrel
    have hbd := szN_bd c
    have hs := HS.out
    have hls := hlt.out
    have hat := szN_at c
    rw [hs] at hbd hat
    match k, hk with
    | 0, _ =>
      by_cases h : c ≤ 127
      · obtain rfl : S = 1 := by omega
        clear hat hs hls hbd
        go_wp2
        go_ret
        exact ⟨ret_int (by rw [HS.out]; rfl), hb.alloc hb.size _⟩
      · have h5 : 1 < S := by omega
        have H5 := Lib.hid h5
        clear hat hs hls hbd h5
        go_wp2
        go_roundw
        case rel => exact ⟨1, by omega, rfl, H5, hb.alloc hb.size _⟩
        case measure => simp [intOf]
    | 1, _ =>
      by_cases h : c ≤ 2047
      · obtain rfl : S = 2 := by omega
        clear hat hs hls hbd
        go_wp2
        go_ret
        exact ⟨ret_int (by rw [HS.out]; rfl), hb.alloc hb.size _⟩
      · have h5 : 2 < S := by omega
        have H5 := Lib.hid h5
        clear hat hs hls hbd h5
        go_wp2
        go_roundw
        case rel => exact ⟨2, by omega, rfl, H5, hb.alloc hb.size _⟩
        case measure => simp [intOf]
    | 2, _ =>
      by_cases h : c ≤ 65535
      · obtain rfl : S = 3 := by omega
        clear hat hs hls hbd
        go_wp2
        go_ret
        exact ⟨ret_int (by rw [HS.out]; rfl), hb.alloc hb.size _⟩
      · have h5 : 3 < S := by omega
        have H5 := Lib.hid h5
        clear hat hs hls hbd h5
        go_wp2
        go_roundw
        case rel => exact ⟨3, by omega, rfl, H5, hb.alloc hb.size _⟩
        case measure => simp [intOf]
    | 3, _ =>
      by_cases h : c ≤ 1114111
      · obtain rfl : S = 4 := by omega
        clear hat hs hls hbd
        go_wp2
        go_ret
        exact ⟨ret_int (by rw [HS.out]; rfl), hb.alloc hb.size _⟩
      · omega
    | 4, _ => omega
theorem size_no {c : Int} {w : World} (hm : mayI c = false) : Calls Tryd.prog 18 #[.int .i32 c] w fun e w' => e = .returned (.int .i64 0) ∧ Grow w w' := by
  have HM := Lib.hid hm
  clear hm
  go_enter Tryd.func18, Tryd.ntmps18
  go_wp2_with fail
  refine (may_at false HM.out).mono ?_
  rintro e w1 ⟨rfl, rfl⟩
  go_wp2
  go_ret
  exact ⟨rfl, Grow.refl _⟩
theorem size_any {c : Int} {w : World} (hT : Tab w) : Calls Tryd.prog 18 #[.int .i32 c] w fun e w' => e = .returned (.int .i64 (sizeI c)) ∧ Grow w w' := by
  cases h : mayI c with
  | true =>
    have h0 := (mayI_iff c).1 h
    obtain ⟨n, rfl⟩ := Int.eq_ofNat_of_zero_le h0.1
    have e : sizeI (n : Int) = szN n := by unfold sizeI; rw [if_pos h]; simp
    rw [e]
    exact size_yes hT h
  | false =>
    have e : sizeI c = 0 := by unfold sizeI; rw [if_neg (by rw [h]; decide)]
    rw [e]
    exact size_no h
end Go.Proofs.YtbphdojjddnljaaDoor

