/-
  lazy: the contracts of rise.
-/
import Derived.Test.YtlnokohmmhmoaaaLBase
namespace Go.Proofs.Ytlnokohmmhmoaaa
open Go.RowKit
set_option linter.unusedSimpArgs false

theorem iwrap {x : Int} (h : -9223372036854775808 ≤ x) (h2 : x ≤ 9223372036854775807) : IntKind.i64.wrap x = x := by
  rw [IntKind.wrap_i64]
  omega
set_option maxRecDepth 100000 in
theorem rise_parts {A : Option Addr} {n c : Nat} {l : List (Pt × Value)} {w : World} (hL : Lies w 4 A n c (l.flatMap pcell)) (hv : ∀ x ∈ l, ∃ A n c, x.2 = .slice A n c) (hr : ∀ (i : Nat) (y x : Pt × Value), l[i]? = some y → l[i + 1]? = some x → y.1.doc < x.1.doc) :
    Calls Try.prog 25 #[.slice A n c, .func (.func 26) #[] #[]] w fun e w' => e = .returned (.bool true) ∧ Grow w w' := by
  have hle := hL.le
  have hbig := hL.big
  have hln := Lies.flat_n pcell_len (by decide) hL
  have HL := Lib.hid hL; have HLN := Lib.hid hln; have HR := Lib.hid hr; have HV := Lib.hid hv
  clear hL hln hr hv
  go_enter Try.func25, Try.ntmps25
  go_wp2
  go_loopw [5] (fun i wr => ∃ j : Nat, j ≤ n ∧ i = .int .i64 ((j + 1 : Nat) : Int) ∧ Grow w wr) (fun i _ => n + 1 - (intOf i).toNat)
  case atStart => exact ⟨0, Nat.zero_le _, rfl, Grow.refl _⟩
  case round =>
    obtain ⟨j, hj, rfl, hg⟩ := hrel
    by_cases hlt : j + 1 < n
    · obtain ⟨x, hx⟩ : ∃ x, l[j + 1]? = some x := ⟨_, List.getElem?_eq_getElem (by have := HLN.out; omega)⟩
      obtain ⟨y, hy⟩ : ∃ y, l[j]? = some y := ⟨_, List.getElem?_eq_getElem (by have := HLN.out; omega)⟩
      obtain ⟨g, o, rfl, -, -⟩ := HL.out.pos (by omega) (by decide)
      have hxy := HR.out j y x hy hx
      {
        obtain ⟨x, vx⟩ := x
        obtain ⟨y, vy⟩ := y
        obtain ⟨A1, m1, d1, rfl⟩ : ∃ A n c, vx = .slice A n c := HV.out _ (List.mem_of_getElem? hx)
        obtain ⟨A2, m2, d2, rfl⟩ : ∃ A n c, vy = .slice A n c := HV.out _ (List.mem_of_getElem? hy)
        simp only at hxy
        have a0 := fun (W : World) (g : Grow wr W) => grow_cell (Lies.flat_cell (j := 0) pcell_len HL.out hx rfl) (hg.trans g)
        have b0 := fun (W : World) (g : Grow wr W) => grow_cell (Lies.flat_cell (j := 0) pcell_len HL.out hy rfl) (hg.trans g)
        have a1 := fun (W : World) (g : Grow wr W) => grow_cell (Lies.flat_cell (j := 1) pcell_len HL.out hx rfl) (hg.trans g)
        have b1 := fun (W : World) (g : Grow wr W) => grow_cell (Lies.flat_cell (j := 1) pcell_len HL.out hy rfl) (hg.trans g)
        have a2 := fun (W : World) (g : Grow wr W) => grow_cell (Lies.flat_cell (j := 2) pcell_len HL.out hx rfl) (hg.trans g)
        have b2 := fun (W : World) (g : Grow wr W) => grow_cell (Lies.flat_cell (j := 2) pcell_len HL.out hy rfl) (hg.trans g)
        have a3 := fun (W : World) (g : Grow wr W) => grow_cell (Lies.flat_cell (j := 3) pcell_len HL.out hx rfl) (hg.trans g)
        have b3 := fun (W : World) (g : Grow wr W) => grow_cell (Lies.flat_cell (j := 3) pcell_len HL.out hy rfl) (hg.trans g)
        simp only [Nat.add_zero] at a0 b0
        have i0 : (0 : Int) ≤ (j : Int) := by omega
        have i1 : (j : Int) < (n : Int) := by omega
        have i2 : (j : Int) + 1 < (n : Int) := by omega
        have i3 : j < n := by omega
        have i4 : (0 : Int) ≤ (j : Int) + 1 := by omega
        have iw : IntKind.i64.wrap (j : Int) = (j : Int) := iwrap (by omega) (by omega)
        have dn : decide (x.doc ≤ y.doc) = false := by simp; omega
        have HG := Lib.hid hg
        clear hx hy hg hxy
        go_wp2_with fail
        refine Chain.start Nat (by kernel_rfl) (by kernel_rfl) (fun hg => ?_)
        repeat (first | (refine Chain.skip hg (fun t => by rfl) ?_; simp only [Act.put, List.setIfInBounds_toArray, List.set_cons_zero, List.set_cons_succ]) | (refine Chain.pure hg (X := ?_) (fun t W hw hN => ⟨by rfl, ?_⟩) ?_; rotate_left; (focus (go_simp <;> with_reducible rfl)); simp only [Act.put, List.setIfInBounds_toArray, List.set_cons_zero, List.set_cons_succ]))
        refine Chain.grow hg (fun _ => .int .u32 x.doc) (fun _ _ => True) (fun _ _ _ h _ => h) (fun _ => by rfl) (fun t W hw hN K hK => ?_) ?_
        · go_simp; refine (numbered_any (x := x)).mono ?_; rintro e w9 ⟨rfl, g9⟩; exact hK.out default _ g9 trivial
        simp only [Act.put, List.setIfInBounds_toArray, List.set_cons_zero, List.set_cons_succ]
        repeat (first | (refine Chain.skip hg (fun t => by rfl) ?_; simp only [Act.put, List.setIfInBounds_toArray, List.set_cons_zero, List.set_cons_succ]) | (refine Chain.pure hg (X := ?_) (fun t W hw hN => ⟨by rfl, ?_⟩) ?_; rotate_left; (focus (go_simp <;> with_reducible rfl)); simp only [Act.put, List.setIfInBounds_toArray, List.set_cons_zero, List.set_cons_succ]))
        refine Chain.grow hg (fun _ => .int .u32 y.doc) (fun _ _ => True) (fun _ _ _ h _ => h) (fun _ => by rfl) (fun t W hw hN K hK => ?_) ?_
        · go_simp; refine (numbered_any (x := y)).mono ?_; rintro e w9 ⟨rfl, g9⟩; exact hK.out default _ g9 trivial
        simp only [Act.put, List.setIfInBounds_toArray, List.set_cons_zero, List.set_cons_succ]
        repeat (first | (refine Chain.skip hg (fun t => by rfl) ?_; simp only [Act.put, List.setIfInBounds_toArray, List.set_cons_zero, List.set_cons_succ]) | (refine Chain.pure hg (X := ?_) (fun t W hw hN => ⟨by rfl, ?_⟩) ?_; rotate_left; (focus (go_simp <;> with_reducible rfl)); simp only [Act.put, List.setIfInBounds_toArray, List.set_cons_zero, List.set_cons_succ]))
        refine Chain.done (fun t W hw hN => ?_)
        clear hN hg a0 b0 a1 b1 a2 b2 a3 b3
        have GW := Lib.hid (HG.out.trans hw)
        go_wp2
        go_roundw
        case rel => exact ⟨j + 1, by omega, by go_num, GW.out⟩
        case measure => simp [intOf]; omega }
    · have dn : decide ((j : Int) + 1 < (n : Int)) = false := by simp; omega
      go_wp2
      go_ret
      exact ⟨rfl, hg⟩
set_option maxRecDepth 100000 in
theorem rise_docs {A : Option Addr} {n c : Nat} {l : List (Dc)} {w : World} (hL : Lies w 3 A n c (l.flatMap ccell)) (hr : ∀ (i : Nat) (y x : Dc), l[i]? = some y → l[i + 1]? = some x → y.doc < x.doc) :
    Calls Try.prog 34 #[.slice A n c, .func (.func 35) #[] #[]] w fun e w' => e = .returned (.bool true) ∧ Grow w w' := by
  have hle := hL.le
  have hbig := hL.big
  have hln := Lies.flat_n ccell_len (by decide) hL
  have HL := Lib.hid hL; have HLN := Lib.hid hln; have HR := Lib.hid hr
  clear hL hln hr
  go_enter Try.func34, Try.ntmps34
  go_wp2
  go_loopw [5] (fun i wr => ∃ j : Nat, j ≤ n ∧ i = .int .i64 ((j + 1 : Nat) : Int) ∧ Grow w wr) (fun i _ => n + 1 - (intOf i).toNat)
  case atStart => exact ⟨0, Nat.zero_le _, rfl, Grow.refl _⟩
  case round =>
    obtain ⟨j, hj, rfl, hg⟩ := hrel
    by_cases hlt : j + 1 < n
    · obtain ⟨x, hx⟩ : ∃ x, l[j + 1]? = some x := ⟨_, List.getElem?_eq_getElem (by have := HLN.out; omega)⟩
      obtain ⟨y, hy⟩ : ∃ y, l[j]? = some y := ⟨_, List.getElem?_eq_getElem (by have := HLN.out; omega)⟩
      obtain ⟨g, o, rfl, -, -⟩ := HL.out.pos (by omega) (by decide)
      have hxy := HR.out j y x hy hx
      {
        have a0 := fun (W : World) (g : Grow wr W) => grow_cell (Lies.flat_cell (j := 0) ccell_len HL.out hx rfl) (hg.trans g)
        have b0 := fun (W : World) (g : Grow wr W) => grow_cell (Lies.flat_cell (j := 0) ccell_len HL.out hy rfl) (hg.trans g)
        have a1 := fun (W : World) (g : Grow wr W) => grow_cell (Lies.flat_cell (j := 1) ccell_len HL.out hx rfl) (hg.trans g)
        have b1 := fun (W : World) (g : Grow wr W) => grow_cell (Lies.flat_cell (j := 1) ccell_len HL.out hy rfl) (hg.trans g)
        have a2 := fun (W : World) (g : Grow wr W) => grow_cell (Lies.flat_cell (j := 2) ccell_len HL.out hx rfl) (hg.trans g)
        have b2 := fun (W : World) (g : Grow wr W) => grow_cell (Lies.flat_cell (j := 2) ccell_len HL.out hy rfl) (hg.trans g)
        simp only [Nat.add_zero] at a0 b0
        have i0 : (0 : Int) ≤ (j : Int) := by omega
        have i1 : (j : Int) < (n : Int) := by omega
        have i2 : (j : Int) + 1 < (n : Int) := by omega
        have i3 : j < n := by omega
        have i4 : (0 : Int) ≤ (j : Int) + 1 := by omega
        have iw : IntKind.i64.wrap (j : Int) = (j : Int) := iwrap (by omega) (by omega)
        have dn : decide (x.doc ≤ y.doc) = false := by simp; omega
        have HG := Lib.hid hg
        clear hx hy hg hxy
        go_wp2_with fail
        refine Chain.start Nat (by kernel_rfl) (by kernel_rfl) (fun hg => ?_)
        repeat (first | (refine Chain.skip hg (fun t => by rfl) ?_; simp only [Act.put, List.setIfInBounds_toArray, List.set_cons_zero, List.set_cons_succ]) | (refine Chain.pure hg (X := ?_) (fun t W hw hN => ⟨by rfl, ?_⟩) ?_; rotate_left; (focus (go_simp <;> with_reducible rfl)); simp only [Act.put, List.setIfInBounds_toArray, List.set_cons_zero, List.set_cons_succ]))
        refine Chain.grow hg (fun _ => .int .u32 x.doc) (fun _ _ => True) (fun _ _ _ h _ => h) (fun _ => by rfl) (fun t W hw hN K hK => ?_) ?_
        · go_simp; refine (plannum_any (x := x)).mono ?_; rintro e w9 ⟨rfl, g9⟩; exact hK.out default _ g9 trivial
        simp only [Act.put, List.setIfInBounds_toArray, List.set_cons_zero, List.set_cons_succ]
        repeat (first | (refine Chain.skip hg (fun t => by rfl) ?_; simp only [Act.put, List.setIfInBounds_toArray, List.set_cons_zero, List.set_cons_succ]) | (refine Chain.pure hg (X := ?_) (fun t W hw hN => ⟨by rfl, ?_⟩) ?_; rotate_left; (focus (go_simp <;> with_reducible rfl)); simp only [Act.put, List.setIfInBounds_toArray, List.set_cons_zero, List.set_cons_succ]))
        refine Chain.grow hg (fun _ => .int .u32 y.doc) (fun _ _ => True) (fun _ _ _ h _ => h) (fun _ => by rfl) (fun t W hw hN K hK => ?_) ?_
        · go_simp; refine (plannum_any (x := y)).mono ?_; rintro e w9 ⟨rfl, g9⟩; exact hK.out default _ g9 trivial
        simp only [Act.put, List.setIfInBounds_toArray, List.set_cons_zero, List.set_cons_succ]
        repeat (first | (refine Chain.skip hg (fun t => by rfl) ?_; simp only [Act.put, List.setIfInBounds_toArray, List.set_cons_zero, List.set_cons_succ]) | (refine Chain.pure hg (X := ?_) (fun t W hw hN => ⟨by rfl, ?_⟩) ?_; rotate_left; (focus (go_simp <;> with_reducible rfl)); simp only [Act.put, List.setIfInBounds_toArray, List.set_cons_zero, List.set_cons_succ]))
        refine Chain.done (fun t W hw hN => ?_)
        clear hN hg a0 b0 a1 b1 a2 b2
        have GW := Lib.hid (HG.out.trans hw)
        go_wp2
        go_roundw
        case rel => exact ⟨j + 1, by omega, by go_num, GW.out⟩
        case measure => simp [intOf]; omega }
    · have dn : decide ((j : Int) + 1 < (n : Int)) = false := by simp; omega
      go_wp2
      go_ret
      exact ⟨rfl, hg⟩
end Go.Proofs.Ytlnokohmmhmoaaa

