/-
  past: the reference's One, Same, of what is the same.
-/
import Derived.Test.YtfpbmpgdpnpdjaaPRef
namespace Go.Proofs.Ytfpbmpgdpnpdjaa
open Go.RowKit
set_option linter.unusedSimpArgs false

theorem rsame_eq {A B : Option Addr} {n c m d : Nat} {a : List U} {w : World} (ha : Lies w 5 A n c (uns a)) (hb : Lies w 5 B m d (uns a)) :
    Calls Try.prog 18 #[.slice A n c, .slice B m d] w fun e w' => e = .returned (.bool true) ∧ Grow w w' := by
  have := rsame_any ha hb
  simpa using this
set_option maxRecDepth 100000 in
theorem one_eq {A B : Option Addr} {n c m d : Nat} {us : List U} {cl rq : Int} {un : Bool} {w : World} (ha : Lies w 5 A n c (uns us)) (hb : Lies w 5 B m d (uns us)) :
    Calls Try.prog 43 #[.agg #[.int .u32 cl, .int .u64 rq, .slice A n c, .bool un], .agg #[.int .u32 cl, .int .u64 rq, .slice B m d, .bool un]] w fun e w' => e = .returned (.bool true) ∧ Grow w w' := by
  have HA := Lib.hid ha; have HB := Lib.hid hb
  have G2 := Lib.hid ((Grow.alloc w (.cells #[.int .u32 cl, .int .u64 rq, .slice A n c, .bool un] 67)).trans (Grow.alloc _ (.cells #[.int .u32 cl, .int .u64 rq, .slice B m d, .bool un] 67)))
  clear ha hb
  go_enter Try.func43, Try.ntmps43
  go_wp2_with fail
  refine (rsame_eq (HA.out.below G2.out (Nat.le_refl _)) (HB.out.below G2.out (Nat.le_refl _))).mono ?_
  rintro e w1 ⟨rfl, g1⟩
  have G3 := Lib.hid (G2.out.trans g1)
  clear g1
  go_wp2
  go_ret
  exact ⟨rfl, G3.out⟩
set_option maxRecDepth 100000 in
theorem osame_eq {A B : Option Addr} {n c m d : Nat} {l1 l2 : List (O × Value)} {S1 S2 : Nat → Prop} {w : World} (ha : OpsLie w S1 A n c l1) (hb : OpsLie w S2 B m d l2) (hl : l1.map (·.1) = l2.map (·.1)) :
    Calls Try.prog 40 #[.slice A n c, .slice B m d] w fun e w' => e = .returned (.bool true) ∧ Grow w w' := by
  have la := ha.row.ocs_len
  have lb := hb.row.ocs_len
  have hlen := congrArg List.length hl
  rw [List.length_map, List.length_map, la, lb] at hlen
  subst hlen
  have hle := ha.row.le
  have hbig := ha.row.big
  have HA := Lib.hid ha; have HB := Lib.hid hb; have HL := Lib.hid hl; have LA := Lib.hid la; have LB := Lib.hid lb
  clear ha hb hl la lb
  go_enter Try.func40, Try.ntmps40
  go_wp2
  go_loopw [5] (fun i wr => ∃ k : Nat, k ≤ n ∧ i = .int .i64 k ∧ Grow w wr) (fun i _ => n - (intOf i).toNat)
  case atStart => exact ⟨0, Nat.zero_le _, rfl, Grow.refl _⟩
  case round =>
    obtain ⟨k, hk, rfl, hg⟩ := hrel
    by_cases hlt : k < n
    · obtain ⟨g1, o1, rfl, -, -⟩ := HA.out.row.pos (by omega) (by decide)
      obtain ⟨g2, o2, rfl, -, -⟩ := HB.out.row.pos (by omega) (by decide)
      obtain ⟨⟨x, v⟩, hx⟩ : ∃ x, l1[k]? = some x := ⟨_, List.getElem?_eq_getElem (by have := LA.out; omega)⟩
      obtain ⟨⟨y, u⟩, hy⟩ : ∃ y, l2[k]? = some y := ⟨_, List.getElem?_eq_getElem (by have := LB.out; omega)⟩
      obtain rfl : x = y := by
        have := congrArg (fun l : List O => l[k]?) HL.out
        simp only [List.getElem?_map, hx, hy] at this
        simpa using this
      obtain ⟨A1, n1, c1, e1, M1, -⟩ := HA.out.each _ (List.mem_of_getElem? hx)
      obtain ⟨A2, n2, c2, e2, M2, -⟩ := HB.out.each _ (List.mem_of_getElem? hy)
      simp only at e1 e2 M1 M2
      subst e1 e2
      have X := fun (W : World) (g : Grow wr W) => HA.out.cells hx W (hg.trans g)
      have Y := fun (W : World) (g : Grow wr W) => HB.out.cells hy W (hg.trans g)
      have x0 := fun W g => (X W g).1
      have x1 := fun W g => (X W g).2.1
      have x2 := fun W g => (X W g).2.2.1
      have x3 := fun W g => (X W g).2.2.2
      have y0 := fun W g => (Y W g).1
      have y1 := fun W g => (Y W g).2.1
      have y2 := fun W g => (Y W g).2.2.1
      have y3 := fun W g => (Y W g).2.2.2
      have i0 : (0 : Int) ≤ (k : Int) := by omega
      have i1 : (k : Int) < (n : Int) := by omega
      have G0 := Lib.hid hg; have H1 := Lib.hid M1; have H2 := Lib.hid M2
      clear X Y hx hy M1 M2 hg
      go_wp2_with fail
      refine Chain.start Nat (by kernel_rfl) (by kernel_rfl) (fun hg => ?_)
      repeat (first | (refine Chain.skip hg (fun t => by rfl) ?_; simp only [Act.put, List.setIfInBounds_toArray, List.set_cons_zero, List.set_cons_succ]) | (refine Chain.pure hg (X := ?_) (fun t W hw hN => ⟨by rfl, ?_⟩) ?_; rotate_left; (focus (go_simp <;> with_reducible rfl)); simp only [Act.put, List.setIfInBounds_toArray, List.set_cons_zero, List.set_cons_succ]))
      refine Chain.grow hg (fun _ => .bool true) (fun _ _ => True) (fun _ _ _ h _ => h) (fun _ => by rfl) (fun t W hw hN K hK => ?_) ?_
      · go_simp; refine (one_eq (H1.out.below (G0.out.trans hw) (Nat.le_refl _)) (H2.out.below (G0.out.trans hw) (Nat.le_refl _))).mono ?_; rintro e w9 ⟨rfl, g9⟩; exact hK.out default _ g9 trivial
      simp only [Act.put, List.setIfInBounds_toArray, List.set_cons_zero, List.set_cons_succ]
      repeat (first | (refine Chain.skip hg (fun t => by rfl) ?_; simp only [Act.put, List.setIfInBounds_toArray, List.set_cons_zero, List.set_cons_succ]) | (refine Chain.pure hg (X := ?_) (fun t W hw hN => ⟨by rfl, ?_⟩) ?_; rotate_left; (focus (go_simp <;> with_reducible rfl)); simp only [Act.put, List.setIfInBounds_toArray, List.set_cons_zero, List.set_cons_succ]))
      refine Chain.done (fun t W hw hN => ?_)
      clear hN hg x0 x1 x2 x3 y0 y1 y2 y3
      have GW := Lib.hid (G0.out.trans hw)
      go_wp2
      go_roundw
      case rel => exact ⟨k + 1, by omega, by go_num, GW.out⟩
      case measure => simp [intOf]; omega
    · obtain rfl : k = n := by omega
      go_wp2
      go_ret
      exact ⟨rfl, hg⟩
end Go.Proofs.Ytfpbmpgdpnpdjaa

