/-
  edit: the contracts of Same: slices.Equal's, the reference's.
-/
import Derived.Test.YtfpbmpgdpnpdjaaUnits
namespace Go.Proofs.Ytfpbmpgdpnpdjaa
open Go.RowKit
set_option linter.unusedSimpArgs false

theorem Lies.unit_cells {w : World} {b off n c i : Nat} {us : List U} {u : U} (h : Lies w 5 (some ⟨b, off, none⟩) n c (uns us)) (hu : us[i]? = some u) : ∀ W : World, Grow w W →
    W.cell? ⟨b, off + i * 5, none⟩ = some (.int .i64 u.k) ∧ W.cell? ⟨b, off + i * 5 + 1, none⟩ = some (.int .i64 u.p) ∧ W.cell? ⟨b, off + i * 5 + 2, none⟩ = some (.int .i32 u.c) ∧ W.cell? ⟨b, off + i * 5 + 3, none⟩ = some (.int .u32 u.cl) ∧ W.cell? ⟨b, off + i * 5 + 4, none⟩ = some (.int .u64 u.rq) := by
  intro W g
  have hr := h.unit hu
  exact ⟨grow_cell (hr 0 _ rfl) g, grow_cell (hr 1 _ rfl) g, grow_cell (hr 2 _ rfl) g, grow_cell (hr 3 _ rfl) g, grow_cell (hr 4 _ rfl) g⟩
set_option maxRecDepth 100000 in
theorem equal_any {A B : Option Addr} {n c m d : Nat} {a b : List U} {w : World} (ha : Lies w 5 A n c (uns a)) (hb : Lies w 5 B m d (uns b)) :
    Calls Try.prog 50 #[.slice A n c, .slice B m d] w fun e w' => e = .returned (.bool (decide (a = b))) ∧ Grow w w' := by
  have la := ha.uns_len
  have lb := hb.uns_len
  have hle := ha.le
  have hbig := ha.big
  have hle2 := hb.le
  have hbig2 := hb.big
  by_cases hnm : n = m
  · subst hnm
    have LA := Lib.hid la; have LB := Lib.hid lb
    clear la lb
    go_enter Try.func50, Try.ntmps50
    go_wp2
    go_loopw [13] (fun i wr => ∃ k : Nat, k ≤ n ∧ i = .int .i64 k ∧ Hid (a.take k = b.take k) ∧ Grow w wr) (fun i _ => n - (intOf i).toNat)
    case atStart => exact ⟨0, Nat.zero_le _, rfl, by simp [Hid], Grow.refl _⟩
    case round =>
      obtain ⟨k, hk, rfl, htk, hgr⟩ := hrel
      by_cases hlt : k < n
      · obtain ⟨g1, o1, rfl, hgs1, hc1⟩ := ha.pos (by omega) (by decide)
        obtain ⟨g2, o2, rfl, hgs2, hc2⟩ := hb.pos (by omega) (by decide)
        obtain ⟨x, hx⟩ : ∃ x, a[k]? = some x := ⟨_, List.getElem?_eq_getElem (by have := LA.out; omega)⟩
        obtain ⟨y, hy⟩ : ∃ y, b[k]? = some y := ⟨_, List.getElem?_eq_getElem (by have := LB.out; omega)⟩
        have X := fun (W : World) (g : Grow wr W) => ha.unit_cells hx W (hgr.trans g)
        have Y := fun (W : World) (g : Grow wr W) => hb.unit_cells hy W (hgr.trans g)
        have x0 := fun W g => (X W g).1
        have x1 := fun W g => (X W g).2.1
        have x2 := fun W g => (X W g).2.2.1
        have x3 := fun W g => (X W g).2.2.2.1
        have x4 := fun W g => (X W g).2.2.2.2
        have y0 := fun W g => (Y W g).1
        have y1 := fun W g => (Y W g).2.1
        have y2 := fun W g => (Y W g).2.2.1
        have y3 := fun W g => (Y W g).2.2.2.1
        have y4 := fun W g => (Y W g).2.2.2.2
        have i0 : (0 : Int) ≤ (k : Int) := by omega
        have i1 : (k : Int) < (n : Int) := by omega
        by_cases hxy : x = y
        · have ht : a.take (k + 1) = b.take (k + 1) := by rw [List.take_add_one, List.take_add_one, htk.out, hx, hy, hxy]
          have HT := Lib.hid ht
          clear X Y hc1 hc2 hx hy ht
          subst hxy
          go_wp2_with fail
          refine Chain.start Nat (by kernel_rfl) (by kernel_rfl) (fun hg => ?_)
          repeat (first | (refine Chain.skip hg (fun t => by rfl) ?_; simp only [Act.put, List.setIfInBounds_toArray, List.set_cons_zero, List.set_cons_succ]) | (refine Chain.pure hg (X := ?_) (fun t W hw hN => ⟨by rfl, ?_⟩) ?_; rotate_left; (focus (go_simp <;> with_reducible rfl)); simp only [Act.put, List.setIfInBounds_toArray, List.set_cons_zero, List.set_cons_succ]))
          refine Chain.done (fun t W hw hN => ?_)
          clear hN hg x0 x1 x2 x3 x4 y0 y1 y2 y3 y4
          have hgW := hgr.trans hw
          go_wp2
          go_roundw
          case rel => exact ⟨k + 1, by omega, by go_num, HT, hgW⟩
          case measure => simp [intOf]; omega
        · have hne : a ≠ b := fun e => by subst e; rw [hx] at hy; injection hy with hy; exact hxy hy
          have HNE := Lib.hid (show decide (a = b) = false by simpa using hne)
          have hd : x.k = y.k → x.p = y.p → x.c = y.c → x.cl = y.cl → ¬x.rq = y.rq := fun e1 e2 e3 e4 e5 => hxy (by cases x; cases y; simp_all)
          have HD := Lib.hid hd
          clear X Y hc1 hc2 hx hy hne hxy hd
          go_wp2_with fail
          refine Chain.start Nat (by kernel_rfl) (by kernel_rfl) (fun hg => ?_)
          repeat (first | (refine Chain.skip hg (fun t => by rfl) ?_; simp only [Act.put, List.setIfInBounds_toArray, List.set_cons_zero, List.set_cons_succ]) | (refine Chain.pure hg (X := ?_) (fun t W hw hN => ⟨by rfl, ?_⟩) ?_; rotate_left; (focus (go_simp <;> with_reducible rfl)); simp only [Act.put, List.setIfInBounds_toArray, List.set_cons_zero, List.set_cons_succ]))
          refine Chain.pure hg (X := fun _ => .bool true) (fun t W hw hN => ⟨by rfl, ?_⟩) ?_
          · go_simp; exact HD.out
          simp only [Act.put, List.setIfInBounds_toArray, List.set_cons_zero, List.set_cons_succ]
          refine Chain.done (fun t W hw hN => ?_)
          clear hN hg x0 x1 x2 x3 x4 y0 y1 y2 y3 y4
          have hgW := hgr.trans hw
          go_wp2
          go_ret
          exact ⟨by rw [HNE.out]; rfl, hgW⟩
      · obtain rfl : k = n := by omega
        have e : decide (a = b) = true := by
          have := htk.out
          rw [List.take_of_length_le (by have := LA.out; omega), List.take_of_length_le (by have := LB.out; omega)] at this
          simpa using this
        have HE := Lib.hid e
        clear e
        go_wp2
        go_ret
        exact ⟨by rw [HE.out]; rfl, hgr⟩
  · have e : decide (a = b) = false := by
      simp only [decide_eq_false_iff_not]
      intro h
      rw [h] at la
      omega
    have e1 : ((n : Int) != (m : Int)) = true := by simp; omega
    have HE := Lib.hid e
    clear e la lb hnm
    go_enter Try.func50, Try.ntmps50
    go_wp2
    go_ret
    exact ⟨by rw [HE.out]; rfl, Grow.refl _⟩
set_option maxRecDepth 100000 in
theorem rsame_any {A B : Option Addr} {n c m d : Nat} {a b : List U} {w : World} (ha : Lies w 5 A n c (uns a)) (hb : Lies w 5 B m d (uns b)) :
    Calls Try.prog 18 #[.slice A n c, .slice B m d] w fun e w' => e = .returned (.bool (decide (a = b))) ∧ Grow w w' := by
  have la := ha.uns_len
  have lb := hb.uns_len
  have hle := ha.le
  have hbig := ha.big
  have hle2 := hb.le
  have hbig2 := hb.big
  by_cases hnm : n = m
  · subst hnm
    have LA := Lib.hid la; have LB := Lib.hid lb
    clear la lb
    go_enter Try.func18, Try.ntmps18
    go_wp2
    go_loopw [5] (fun i wr => ∃ k : Nat, k ≤ n ∧ i = .int .i64 k ∧ Hid (a.take k = b.take k) ∧ Grow w wr) (fun i _ => n - (intOf i).toNat)
    case atStart => exact ⟨0, Nat.zero_le _, rfl, by simp [Hid], Grow.refl _⟩
    case round =>
      obtain ⟨k, hk, rfl, htk, hgr⟩ := hrel
      by_cases hlt : k < n
      · obtain ⟨g1, o1, rfl, hgs1, hc1⟩ := ha.pos (by omega) (by decide)
        obtain ⟨g2, o2, rfl, hgs2, hc2⟩ := hb.pos (by omega) (by decide)
        obtain ⟨x, hx⟩ : ∃ x, a[k]? = some x := ⟨_, List.getElem?_eq_getElem (by have := LA.out; omega)⟩
        obtain ⟨y, hy⟩ : ∃ y, b[k]? = some y := ⟨_, List.getElem?_eq_getElem (by have := LB.out; omega)⟩
        have X := fun (W : World) (g : Grow wr W) => ha.unit_cells hx W (hgr.trans g)
        have Y := fun (W : World) (g : Grow wr W) => hb.unit_cells hy W (hgr.trans g)
        have x0 := fun W g => (X W g).1
        have x1 := fun W g => (X W g).2.1
        have x2 := fun W g => (X W g).2.2.1
        have x3 := fun W g => (X W g).2.2.2.1
        have x4 := fun W g => (X W g).2.2.2.2
        have y0 := fun W g => (Y W g).1
        have y1 := fun W g => (Y W g).2.1
        have y2 := fun W g => (Y W g).2.2.1
        have y3 := fun W g => (Y W g).2.2.2.1
        have y4 := fun W g => (Y W g).2.2.2.2
        have i0 : (0 : Int) ≤ (k : Int) := by omega
        have i1 : (k : Int) < (n : Int) := by omega
        by_cases hxy : x = y
        · have ht : a.take (k + 1) = b.take (k + 1) := by rw [List.take_add_one, List.take_add_one, htk.out, hx, hy, hxy]
          have HT := Lib.hid ht
          clear X Y hc1 hc2 hx hy ht
          subst hxy
          go_wp2_with fail
          refine Chain.start Nat (by kernel_rfl) (by kernel_rfl) (fun hg => ?_)
          repeat (first | (refine Chain.skip hg (fun t => by rfl) ?_; simp only [Act.put, List.setIfInBounds_toArray, List.set_cons_zero, List.set_cons_succ]) | (refine Chain.pure hg (X := ?_) (fun t W hw hN => ⟨by rfl, ?_⟩) ?_; rotate_left; (focus (go_simp <;> with_reducible rfl)); simp only [Act.put, List.setIfInBounds_toArray, List.set_cons_zero, List.set_cons_succ]))
          refine Chain.done (fun t W hw hN => ?_)
          clear hN hg x0 x1 x2 x3 x4 y0 y1 y2 y3 y4
          have hgW := hgr.trans hw
          go_wp2
          go_roundw
          case rel => exact ⟨k + 1, by omega, by go_num, HT, hgW⟩
          case measure => simp [intOf]; omega
        · have hne : a ≠ b := fun e => by subst e; rw [hx] at hy; injection hy with hy; exact hxy hy
          have HNE := Lib.hid (show decide (a = b) = false by simpa using hne)
          have hd : x.k = y.k → x.p = y.p → x.c = y.c → x.cl = y.cl → ¬x.rq = y.rq := fun e1 e2 e3 e4 e5 => hxy (by cases x; cases y; simp_all)
          have HD := Lib.hid hd
          clear X Y hc1 hc2 hx hy hne hxy hd
          go_wp2_with fail
          refine Chain.start Nat (by kernel_rfl) (by kernel_rfl) (fun hg => ?_)
          repeat (first | (refine Chain.skip hg (fun t => by rfl) ?_; simp only [Act.put, List.setIfInBounds_toArray, List.set_cons_zero, List.set_cons_succ]) | (refine Chain.pure hg (X := ?_) (fun t W hw hN => ⟨by rfl, ?_⟩) ?_; rotate_left; (focus (go_simp <;> with_reducible rfl)); simp only [Act.put, List.setIfInBounds_toArray, List.set_cons_zero, List.set_cons_succ]))
          refine Chain.pure hg (X := fun _ => .bool true) (fun t W hw hN => ⟨by rfl, ?_⟩) ?_
          · go_simp; exact HD.out
          simp only [Act.put, List.setIfInBounds_toArray, List.set_cons_zero, List.set_cons_succ]
          refine Chain.done (fun t W hw hN => ?_)
          clear hN hg x0 x1 x2 x3 x4 y0 y1 y2 y3 y4
          have hgW := hgr.trans hw
          go_wp2
          go_ret
          exact ⟨by rw [HNE.out]; rfl, hgW⟩
      · obtain rfl : k = n := by omega
        have e : decide (a = b) = true := by
          have := htk.out
          rw [List.take_of_length_le (by have := LA.out; omega), List.take_of_length_le (by have := LB.out; omega)] at this
          simpa using this
        have HE := Lib.hid e
        clear e
        go_wp2
        go_ret
        exact ⟨by rw [HE.out]; rfl, hgr⟩
  · have e : decide (a = b) = false := by
      simp only [decide_eq_false_iff_not]
      intro h
      rw [h] at la
      omega
    have e1 : ((n : Int) != (m : Int)) = true := by simp; omega
    have HE := Lib.hid e
    clear e la lb hnm
    go_enter Try.func18, Try.ntmps18
    go_wp2
    go_ret
    exact ⟨by rw [HE.out]; rfl, Grow.refl _⟩
set_option maxRecDepth 100000 in
theorem esame_any {A B : Option Addr} {n c m d : Nat} {a b : List U} {w : World} (ha : Lies w 5 A n c (uns a)) (hb : Lies w 5 B m d (uns b)) :
    Calls Try.prog 17 #[.slice A n c, .slice B m d] w fun e w' => e = .returned (.bool (decide (a = b))) ∧ Grow w w' := by
  have HA := Lib.hid ha; have HB := Lib.hid hb
  obtain ⟨r, hr⟩ : ∃ r, decide (a = b) = r := ⟨_, rfl⟩
  have HR := Lib.hid hr
  rw [hr]
  clear ha hb hr
  go_enter Try.func17, Try.ntmps17
  go_wp2_with fail
  refine (equal_any HA.out HB.out).mono ?_
  rw [HR.out]
  rintro e w1 ⟨rfl, g1⟩
  have G1 := Lib.hid g1
  clear g1
  go_wp2
  go_ret
  exact ⟨rfl, G1.out⟩
end Go.Proofs.Ytfpbmpgdpnpdjaa

