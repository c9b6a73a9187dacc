/-
  crc: the contracts of half, More, take, and of the reference's Sum.
-/
import Derived.Test.YthoaagkllkcacaaDoorMem
import Derived.Test.YthoaagkllkcacaaDoorPlain
import Derived.Test.YthoaagkllkcacaaDoorRows
import Derived.Outline
import Derived.Laws.BitsAllLaws
namespace Go.Proofs.YthoaagkllkcacaaDoor
open Go.RowKit

theorem ret_int {k : IntKind} {a b : Int} (h : a = b) : Ending.returned (.int k a) = .returned (.int k b) := by rw [h]
/-- The table's cells. -/
def Tab (w : World) : Prop := ∀ j, j < 16 → w.cell? ⟨0, j, none⟩ = some (.int .u32 (tab.getD j 0 : Nat))
theorem Tab.pos {w : World} (h : Tab w) : 0 < w.heap.size := World.block_lt_of_cell? w _ (h 0 (by decide))
theorem Tab.below {w w' : World} {B : Nat} (h : Tab w) (hb : Below B w w') (hB : 0 < B) : Tab w' := fun j hj => (hb.cell (p := ⟨0, j, none⟩) hB).trans (h j hj)
theorem Tab.same {w w' : World} (h : Tab w) (hb : Below w.heap.size w w') : Tab w' := h.below hb h.pos
theorem Tab.alloc {w : World} (h : Tab w) (o : Obj) : Tab (w.alloc o) := h.same ((Below.refl _ _).alloc (Nat.le_refl _) o)

theorem and15 (x : Nat) (h : x < 4294967296) : bits .and .u32 (x : Int) 15 = ((x % 16 : Nat) : Int) := by
  have := u32_and_nat x 15 h (by decide)
  rw [nat_mask4] at this
  exact this
theorem tab_bd (j : Nat) : tab.getD j 0 < 4294967296 := by
  by_cases h : j < 16
  · exact tab_lt ⟨j, h⟩
  · rw [List.getD, List.getElem?_eq_none (show tab.length ≤ j by simp [tab]; omega)]; decide
theorem half_bits (x : Nat) (h : x < 4294967296) : bits .xor .u32 ((x : Int) / 16) (tab.getD (x % 16) 0 : Nat) = ((stN 4 x : Nat) : Int) := by
  have := u32_xor_nat (x / 16) (tab.getD (x % 16) 0) (by omega) (tab_bd _)
  rw [half_eq, ← this]
  simp
theorem half_any {x : Nat} {w : World} (hT : Tab w) (h : x < 4294967296) :
    Calls Tryd.prog 23 #[.int .u32 x] w fun e w' => e = .returned (.int .u32 (stN 4 x)) ∧ w = w' := by
  have ha := and15 x h
  obtain ⟨t, ht⟩ : ∃ t : Int, t = (tab.getD (x % 16) 0 : Nat) := ⟨_, rfl⟩
  have hc := hT (x % 16) (by omega)
  have hb := half_bits x h
  rw [← ht] at hc hb
  have H := Lib.hid hb
  obtain ⟨j, hj⟩ : ∃ j, j = x % 16 := ⟨_, rfl⟩
  rw [← hj] at hc ha
  have hj2 : j < 16 := by omega
  clear hb ht hj h
  go_enter Tryd.func23, Tryd.ntmps23
  go_wp2
  go_ret
  exact ⟨ret_int H.out, rfl⟩
theorem not_bits (s : Nat) (h : s < 4294967296) : bits .xor .u32 IntKind.u32.max (s : Int) = ((s ^^^ ones : Nat) : Int) := by
  have := u32_xor_nat ones s ones_lt h
  rw [Nat.xor_comm] at this
  exact this
set_option maxRecDepth 100000 in
theorem more_any {s : Nat} {A : Option Addr} {n c : Nat} {l : List Nat} {w : World} (hT : Tab w) (hs : s < 4294967296) (hA : Lies w 1 A n c (byt l)) (hl : ∀ x ∈ l, x < 256) :
    Calls Tryd.prog 17 #[.int .u32 s, .slice A n c] w fun e w' => e = .returned (.int .u32 (more s l)) ∧ w = w' := by
  have hln := hA.bytes_len
  have hle := hA.le
  have hbig := hA.big
  have HL := Lib.hid hln; have HB := Lib.hid hl; have HS := Lib.hid hs
  have hR0 := xor_lt32 hs ones_lt
  obtain ⟨R0, eR0⟩ : ∃ R, R = s ^^^ ones := ⟨_, rfl⟩
  have hnb := not_bits s hs
  rw [← eR0] at hnb hR0
  have HR0 := Lib.hid eR0; have HRl := Lib.hid hR0
  clear hln hl hs eR0 hR0
  go_enter Tryd.func17, Tryd.ntmps17
  go_wp2
  clear hnb
  go_loop [5, 12] (fun x i => ∃ k R : Nat, k ≤ n ∧ i = .int .i64 k ∧ x = .int .u32 R ∧ Hid (R = run R0 (l.take k) ∧ R < 4294967296)) (fun _ i => n - (intOf i).toNat)
  case atStart => exact ⟨0, R0, Nat.zero_le _, rfl, rfl, ⟨by simp [run_nil], HRl.out⟩⟩
  case round =>
    obtain ⟨k, R, hk, rfl, rfl, hr⟩ := hrel
    by_cases hlt : k < n
    · obtain ⟨b, off, rfl, hbs, hcell⟩ := hA.pos (by omega) (by decide)
      obtain ⟨ch, hch⟩ : ∃ ch, l[k]? = some ch := ⟨_, List.getElem?_eq_getElem (by have := HL.out; omega)⟩
      have hc := hcell k (.int .u8 ch) (by simp [byt, hch])
      have hb2 : ch < 256 := HB.out ch (List.mem_of_getElem? hch)
      obtain ⟨Y, hY⟩ : ∃ Y, Y = R ^^^ ch := ⟨_, rfl⟩
      have hx : bits .xor .u32 (R : Int) (ch : Int) = (Y : Int) := by rw [hY]; exact u32_xor_nat R ch hr.out.2 (by omega)
      have hYl : Y < 4294967296 := by rw [hY]; exact xor_lt32 hr.out.2 (by omega)
      have hrun : run R0 (l.take (k + 1)) = stN 8 Y := by
        have e : l.take (k + 1) = l.take k ++ [ch] := by rw [List.take_add_one, hch]; rfl
        rw [e, run_app, run_cons, run_nil, ← hr.out.1, ← hY]
      have HY := Lib.hid hYl; have HRU := Lib.hid hrun
      clear hcell hch hY hYl hrun
      go_wp2_with fail
      refine (half_any (x := Y) hT HY.out).mono ?_
      rintro e w1 ⟨rfl, rfl⟩
      go_wp2_with fail
      refine (half_any (x := stN 4 Y) hT (stN_lt 4 HY.out)).mono ?_
      rintro e w1 ⟨rfl, rfl⟩
      go_wp2
      go_round
      case rel => exact ⟨k + 1, stN 4 (stN 4 Y), by omega, by go_num, rfl, ⟨by rw [HRU.out, ← stN_add], stN_lt 4 (stN_lt 4 HY.out)⟩⟩
      case measure => simp [intOf]; omega
    · obtain rfl : k = n := by omega
      have hfin : R ^^^ ones = more s l := by
        rw [hr.out.1, HR0.out]
        unfold more
        rw [← HL.out, List.take_length]
      have hnb := not_bits R hr.out.2
      rw [hfin] at hnb
      have HN := Lib.hid hnb
      clear hnb hfin
      go_wp2
      go_ret
      exact ⟨ret_int HN.out, rfl⟩
theorem st_bits (x : Nat) (h : x < 4294967296) : bits .xor .u32 ((x : Int) / 2) 3988292384 = ((x / 2 ^^^ poly : Nat) : Int) := by
  have := u32_xor_nat (x / 2) poly (by omega) (by decide)
  rw [← this]
  simp [poly]
set_option maxRecDepth 100000 in
theorem take_any {x ch : Nat} {w : World} (hx : x < 4294967296) (hc : ch < 256) :
    Calls Tryd.prog 22 #[.int .u32 x, .int .u8 ch] w fun e w' => e = .returned (.int .u32 (stN 8 (x ^^^ ch))) ∧ w = w' := by
  obtain ⟨Y, hY⟩ : ∃ Y, Y = x ^^^ ch := ⟨_, rfl⟩
  have hxb : bits .xor .u32 (x : Int) (ch : Int) = (Y : Int) := by rw [hY]; exact u32_xor_nat x ch hx (by omega)
  have hYl : Y < 4294967296 := by rw [hY]; exact xor_lt32 hx (by omega)
  rw [← hY]
  have HY := Lib.hid hYl
  clear hY hYl hx
  go_enter Tryd.func22, Tryd.ntmps22
  go_wp2
  go_loop [0, 5] (fun x i => ∃ k R : Nat, k ≤ 8 ∧ i = .int .i64 k ∧ x = .int .u32 R ∧ Hid (stN (8 - k) R = stN 8 Y ∧ R < 4294967296)) (fun _ i => 8 - (intOf i).toNat)
  case atStart => exact ⟨0, Y, by omega, rfl, rfl, ⟨rfl, HY.out⟩⟩
  case round =>
    obtain ⟨k, R, hk, rfl, rfl, hr⟩ := hrel
    by_cases hlt : k < 8
    · have hst : stN (8 - (k + 1)) (st R) = stN 8 Y := by
        rw [← hr.out.1, show 8 - k = (8 - (k + 1)) + 1 by omega, stN]
      have hl := st_lt hr.out.2
      have hbt := st_bits R hr.out.2
      by_cases hodd : R % 2 = 1
      · have e : st R = R / 2 ^^^ poly := by unfold st; rw [if_pos hodd]
        rw [e] at hst hl
        obtain ⟨Z, hZ⟩ : ∃ Z, Z = R / 2 ^^^ poly := ⟨_, rfl⟩
        rw [← hZ] at hst hl hbt
        have ho : ((R : Int) % 2 == 1) = true := by simp; omega
        have hw : (R : Int) / 2 % 4294967296 = (R : Int) / 2 := by have := hr.out.2; omega
        have HS := Lib.hid hst; have HL := Lib.hid hl
        clear hst hl e hZ hodd
        go_wp2
        go_round
        case rel => exact ⟨k + 1, Z, by omega, by go_num, rfl, ⟨HS.out, HL.out⟩⟩
        case measure => simp [intOf]; omega
      · have e : st R = R / 2 := by unfold st; rw [if_neg hodd]
        rw [e] at hst hl
        have ho : ((R : Int) % 2 == 1) = false := by simp; omega
        have hw : IntKind.u32.wrap ((R : Int) / 2) = (R : Int) / 2 := by have := hr.out.2; rw [IntKind.wrap_u32]; omega
        have HS := Lib.hid hst; have HL := Lib.hid hl
        clear hst hl e hodd hbt
        go_wp2
        go_round
        case rel => exact ⟨k + 1, R / 2, by omega, by go_num, by go_num, ⟨HS.out, HL.out⟩⟩
        case measure => simp [intOf]; omega
    · obtain rfl : k = 8 := by omega
      go_wp2
      go_ret
      exact ⟨ret_int (by rw [← hr.out.1]; rfl), rfl⟩
set_option maxRecDepth 100000 in
theorem rsum_any {A : Option Addr} {n c : Nat} {l : List Nat} {w : World} (hA : Lies w 1 A n c (byt l)) (hl : ∀ x ∈ l, x < 256) :
    Calls Tryd.prog 14 #[.slice A n c] w fun e w' => e = .returned (.int .u32 (sum l)) ∧ w = w' := by
  have hln := hA.bytes_len
  have hle := hA.le
  have hbig := hA.big
  have HL := Lib.hid hln; have HB := Lib.hid hl
  clear hln hl
  go_enter Tryd.func14, Tryd.ntmps14
  go_wp2
  go_loop [3, 4] (fun x i => ∃ k R : Nat, k ≤ n ∧ i = .int .i64 k ∧ x = .int .u32 R ∧ Hid (R = run ones (l.take k) ∧ R < 4294967296)) (fun _ i => n - (intOf i).toNat)
  case atStart => exact ⟨0, ones, Nat.zero_le _, rfl, rfl, ⟨by simp [run_nil], ones_lt⟩⟩
  case round =>
    obtain ⟨k, R, hk, rfl, rfl, hr⟩ := hrel
    by_cases hlt : k < n
    · obtain ⟨b, off, rfl, hbs, hcell⟩ := hA.pos (by omega) (by decide)
      obtain ⟨ch, hch⟩ : ∃ ch, l[k]? = some ch := ⟨_, List.getElem?_eq_getElem (by have := HL.out; omega)⟩
      have hc := hcell k (.int .u8 ch) (by simp [byt, hch])
      have hb2 : ch < 256 := HB.out ch (List.mem_of_getElem? hch)
      have hrun : run ones (l.take (k + 1)) = stN 8 (R ^^^ ch) := by
        have e : l.take (k + 1) = l.take k ++ [ch] := by rw [List.take_add_one, hch]; rfl
        rw [e, run_app, run_cons, run_nil, ← hr.out.1]
      have HRU := Lib.hid hrun
      clear hcell hch hrun
      go_wp2_with fail
      refine (take_any (x := R) (ch := ch) hr.out.2 hb2).mono ?_
      rintro e w1 ⟨rfl, rfl⟩
      go_wp2
      go_round
      case rel => exact ⟨k + 1, _, by omega, by go_num, rfl, ⟨HRU.out.symm, stN_lt 8 (xor_lt32 hr.out.2 (by omega))⟩⟩
      case measure => simp [intOf]; omega
    · obtain rfl : k = n := by omega
      have hfin : 4294967295 - R = sum l := by
        have h0 : (0 : Nat) ^^^ ones = ones := by decide
        rw [← ones_sub hr.out.2, hr.out.1]
        unfold sum more
        rw [← HL.out, List.take_length, h0]
      have hw : IntKind.u32.wrap (4294967295 - (R : Int)) = ((sum l : Nat) : Int) := by have := hr.out.2; rw [IntKind.wrap_u32, ← hfin]; omega
      have HW := Lib.hid hw
      clear hfin hw
      go_wp2
      go_ret
      exact ⟨ret_int HW.out, rfl⟩
end Go.Proofs.YthoaagkllkcacaaDoor
