/-
  lazy: the contracts of what is refused.
-/
import Derived.Test.YtlnokohmmhmoaaaLServe
import Derived.Test.YtlnokohmmhmoaaaLTakeN
namespace Go.Proofs.Ytlnokohmmhmoaaa
open Go.RowKit
set_option linter.unusedSimpArgs false

set_option maxRecDepth 100000 in
theorem rise_no {A : Option Addr} {n c : Nat} {l : List (Pt × Value)} {w : World} (hL : Lies w 4 A n c (l.flatMap pcell)) (hv : ∀ x ∈ l, ∃ A n c, x.2 = .slice A n c) (hn2 : 2 ≤ n) (hr : ∀ (y x : Pt × Value), l[0]? = some y → l[0 + 1]? = some x → x.1.doc ≤ y.1.doc) :
    Calls Try.prog 25 #[.slice A n c, .func (.func 26) #[] #[]] w fun e w' => e = .returned (.bool false) ∧ Grow w w' := by
  have hle := hL.le
  have hbig := hL.big
  have hln := Lies.flat_n pcell_len (by decide) hL
  have HL := Lib.hid hL; have HLN := Lib.hid hln; have HR := Lib.hid hr; have HV := Lib.hid hv
  clear hL hln hr hv
  go_enter Try.func25, Try.ntmps25
  go_wp2
  go_loopw [5] (fun i wr => ∃ j : Nat, Hid (j = 0) ∧ i = .int .i64 ((j + 1 : Nat) : Int) ∧ Grow w wr) (fun i _ => n + 1 - (intOf i).toNat)
  case atStart => exact ⟨0, rfl, rfl, Grow.refl _⟩
  case round =>
    obtain ⟨j, hj, rfl, hg⟩ := hrel
    have hlt : j + 1 < n := by have := hj.out; omega
    focus
      obtain ⟨x, hx⟩ : ∃ x, l[j + 1]? = some x := ⟨_, List.getElem?_eq_getElem (by have := HLN.out; omega)⟩
      obtain ⟨y, hy⟩ : ∃ y, l[j]? = some y := ⟨_, List.getElem?_eq_getElem (by have := HLN.out; omega)⟩
      obtain ⟨g, o, rfl, -, -⟩ := HL.out.pos (by omega) (by decide)
      have hxy : x.1.doc ≤ y.1.doc := by have h0 := hj.out; subst h0; exact HR.out y x hy hx
      {
        obtain ⟨x, vx⟩ := x
        obtain ⟨y, vy⟩ := y
        obtain ⟨A1, m1, d1, rfl⟩ : ∃ A n c, vx = .slice A n c := HV.out _ (List.mem_of_getElem? hx)
        obtain ⟨A2, m2, d2, rfl⟩ : ∃ A n c, vy = .slice A n c := HV.out _ (List.mem_of_getElem? hy)
        simp only at hxy
        have a0 := fun (W : World) (g : Grow wr W) => grow_cell (Lies.flat_cell (j := 0) pcell_len HL.out hx rfl) (hg.trans g)
        have b0 := fun (W : World) (g : Grow wr W) => grow_cell (Lies.flat_cell (j := 0) pcell_len HL.out hy rfl) (hg.trans g)
        have a1 := fun (W : World) (g : Grow wr W) => grow_cell (Lies.flat_cell (j := 1) pcell_len HL.out hx rfl) (hg.trans g)
        have b1 := fun (W : World) (g : Grow wr W) => grow_cell (Lies.flat_cell (j := 1) pcell_len HL.out hy rfl) (hg.trans g)
        have a2 := fun (W : World) (g : Grow wr W) => grow_cell (Lies.flat_cell (j := 2) pcell_len HL.out hx rfl) (hg.trans g)
        have b2 := fun (W : World) (g : Grow wr W) => grow_cell (Lies.flat_cell (j := 2) pcell_len HL.out hy rfl) (hg.trans g)
        have a3 := fun (W : World) (g : Grow wr W) => grow_cell (Lies.flat_cell (j := 3) pcell_len HL.out hx rfl) (hg.trans g)
        have b3 := fun (W : World) (g : Grow wr W) => grow_cell (Lies.flat_cell (j := 3) pcell_len HL.out hy rfl) (hg.trans g)
        simp only [Nat.add_zero] at a0 b0
        have i0 : (0 : Int) ≤ (j : Int) := by omega
        have i1 : (j : Int) < (n : Int) := by omega
        have i2 : (j : Int) + 1 < (n : Int) := by omega
        have i3 : j < n := by omega
        have i4 : (0 : Int) ≤ (j : Int) + 1 := by omega
        have iw : IntKind.i64.wrap (j : Int) = (j : Int) := iwrap (by omega) (by omega)
        have dn : decide (x.doc ≤ y.doc) = true := by simp; omega
        have HG := Lib.hid hg
        clear hx hy hg hxy
        go_wp2_with fail
        refine Chain.start Nat (by kernel_rfl) (by kernel_rfl) (fun hg => ?_)
        repeat (first | (refine Chain.skip hg (fun t => by rfl) ?_; simp only [Act.put, List.setIfInBounds_toArray, List.set_cons_zero, List.set_cons_succ]) | (refine Chain.pure hg (X := ?_) (fun t W hw hN => ⟨by rfl, ?_⟩) ?_; rotate_left; (focus (go_simp <;> with_reducible rfl)); simp only [Act.put, List.setIfInBounds_toArray, List.set_cons_zero, List.set_cons_succ]))
        refine Chain.grow hg (fun _ => .int .u32 x.doc) (fun _ _ => True) (fun _ _ _ h _ => h) (fun _ => by rfl) (fun t W hw hN K hK => ?_) ?_
        · go_simp; refine (numbered_any (x := x)).mono ?_; rintro e w9 ⟨rfl, g9⟩; exact hK.out default _ g9 trivial
        simp only [Act.put, List.setIfInBounds_toArray, List.set_cons_zero, List.set_cons_succ]
        repeat (first | (refine Chain.skip hg (fun t => by rfl) ?_; simp only [Act.put, List.setIfInBounds_toArray, List.set_cons_zero, List.set_cons_succ]) | (refine Chain.pure hg (X := ?_) (fun t W hw hN => ⟨by rfl, ?_⟩) ?_; rotate_left; (focus (go_simp <;> with_reducible rfl)); simp only [Act.put, List.setIfInBounds_toArray, List.set_cons_zero, List.set_cons_succ]))
        refine Chain.grow hg (fun _ => .int .u32 y.doc) (fun _ _ => True) (fun _ _ _ h _ => h) (fun _ => by rfl) (fun t W hw hN K hK => ?_) ?_
        · go_simp; refine (numbered_any (x := y)).mono ?_; rintro e w9 ⟨rfl, g9⟩; exact hK.out default _ g9 trivial
        simp only [Act.put, List.setIfInBounds_toArray, List.set_cons_zero, List.set_cons_succ]
        repeat (first | (refine Chain.skip hg (fun t => by rfl) ?_; simp only [Act.put, List.setIfInBounds_toArray, List.set_cons_zero, List.set_cons_succ]) | (refine Chain.pure hg (X := ?_) (fun t W hw hN => ⟨by rfl, ?_⟩) ?_; rotate_left; (focus (go_simp <;> with_reducible rfl)); simp only [Act.put, List.setIfInBounds_toArray, List.set_cons_zero, List.set_cons_succ]))
        refine Chain.done (fun t W hw hN => ?_)
        clear hN hg a0 b0 a1 b1 a2 b2 a3 b3
        have GW := Lib.hid (HG.out.trans hw)
        go_wp2
        go_ret
        exact ⟨rfl, GW.out⟩ }
set_option maxRecDepth 100000 in
theorem new_me {me : Int} {least n c : Nat} {A : Option Addr} {w : World} (h : me < 0 ∨ 7 ≤ me) :
    Calls Try.prog 8 #[.int .i64 me, .int .u64 least, .slice A n c] w fun e w' => e = .returned (.tuple #[.pointer none, .int .i64 1]) ∧ Grow w w' := by
  go_enter Try.func8, Try.ntmps8
  go_wp2_with fail
  refine (node_bad h).mono ?_
  rintro e w1 ⟨rfl, rfl⟩
  go_wp2
  go_ret2
  exact ⟨rfl, Grow.refl _⟩
set_option maxRecDepth 100000 in
theorem new_rise {me : Int} {least n c : Nat} {A : Option Addr} {l : List (Pt × Value)} {w : World} (h0 : 0 ≤ me) (h1 : me < 7) (hL : Lies w 4 A n c (l.flatMap pcell)) (hv : ∀ x ∈ l, ∃ A n c, x.2 = .slice A n c) (hn2 : 2 ≤ n) (hr : ∀ (y x : Pt × Value), l[0]? = some y → l[0 + 1]? = some x → x.1.doc ≤ y.1.doc) :
    Calls Try.prog 8 #[.int .i64 me, .int .u64 least, .slice A n c] w fun e w' => e = .returned (.tuple #[.pointer none, .int .i64 1]) ∧ Grow w w' := by
  have HL := Lib.hid hL; have HV := Lib.hid hv; have HR := Lib.hid hr
  clear hL hv hr
  go_enter Try.func8, Try.ntmps8
  go_wp2_with fail
  refine (node_ok h0 h1).mono ?_
  rintro e w1 ⟨rfl, rfl⟩
  go_wp2_with fail
  refine (rise_no HL.out HV.out hn2 HR.out).mono ?_
  rintro e w1 ⟨rfl, g1⟩
  go_wp2
  go_ret2
  exact ⟨rfl, g1⟩
set_option maxRecDepth 100000 in
set_option maxHeartbeats 4000000 in
/-- Plan refuses what is told. -/
theorem plan_arg {T R : Nat → Prop} {p op : Nat} {f : F} {frm doc off tot : Int} {A B : Option Addr} {n c m e0 : Nat} {w : World} (h : FIs w T R p f) (hneg : f.frm < 0) (hs : op < f.least ∨ (f.least ≤ op ∧ frm = f.me)) :
    Calls Try.prog 17 #[.pointer (some ⟨p, 0, none⟩), .agg #[.int .i64 15, .int .u64 0, .int .i64 frm, .int .u32 0, .int .u64 0, .int .u64 0, .int .u64 op, .int .u64 0, .int .u64 0, .int .u64 0, .int .u64 0, .int .u32 0, .int .u64 0, .slice none 0 0, .int .u32 doc, .int .i64 off, .int .i64 tot, .bool false, .slice A n c, .slice B m e0]] w fun e w' => e = .returned (.int .i64 1) ∧ Grow w w' := by
  obtain ⟨b, Rv, V, l, h⟩ := h
  have hbox := heap_alloc_new w (.cells #[.int .i64 15, .int .u64 0, .int .i64 frm, .int .u32 0, .int .u64 0, .int .u64 0, .int .u64 op, .int .u64 0, .int .u64 0, .int .u64 0, .int .u64 0, .int .u32 0, .int .u64 0, .slice none 0 0, .int .u32 doc, .int .i64 off, .int .i64 tot, .bool false, .slice A n c, .slice B m e0] 42)
  have ga := Grow.alloc w (.cells #[.int .i64 15, .int .u64 0, .int .i64 frm, .int .u32 0, .int .u64 0, .int .u64 0, .int .u64 op, .int .u64 0, .int .u64 0, .int .u64 0, .int .u64 0, .int .u32 0, .int .u64 0, .slice none 0 0, .int .u32 doc, .int .i64 off, .int .i64 tot, .bool false, .slice A n c, .slice B m e0] 42)
  obtain ⟨w1, hw1⟩ : ∃ w1, w.alloc (.cells #[.int .i64 15, .int .u64 0, .int .i64 frm, .int .u32 0, .int .u64 0, .int .u64 0, .int .u64 op, .int .u64 0, .int .u64 0, .int .u64 0, .int .u64 0, .int .u32 0, .int .u64 0, .slice none 0 0, .int .u32 doc, .int .i64 off, .int .i64 tot, .bool false, .slice A n c, .slice B m e0] 42) = w1 := ⟨_, rfl⟩
  rw [hw1] at hbox ga
  have c11 : w1.cell? ⟨p, 11, none⟩ = some (.bool true) := (h.grow ga).c 11
  have c3 : w1.cell? ⟨p, 3, none⟩ = some (.int .i64 f.frm) := (h.grow ga).c 3
  have k0 : w1.cell? ⟨w.heap.size, 0, none⟩ = some (.int .i64 15) := cell_of_row w1 _ 0 _ _ (0, 0) hbox
  have e2 : decide (f.frm ≥ 0) = false := by simp; omega
  have H1 := Lib.hid (h.grow ga); have BX := Lib.hid hbox; have GA := Lib.hid ga; have HW1 := Lib.hid hw1; have HS := Lib.hid hs
  clear h hbox ga hw1 hs hneg
  go_enter Try.func17, Try.ntmps17
  go_wp2_with fail
  rw [HW1.out]
  refine (fnone_made c11).mono ?_
  rintro e w2 ⟨rfl, rfl⟩
  go_upto_region 5 with fail
  clear c11 c3 k0 e2
  have y6 : ∀ W, Grow w1 W → W.cell? ⟨w.heap.size, 6, none⟩ = some (.int .u64 op) := fun W g => cell_of_row W _ 6 _ _ (0, 0) (row_grow BX.out g)
  have q1 : ∀ W, Grow w1 W → W.cell? ⟨p, 1, none⟩ = some (.int .u64 f.least) := fun W g => (H1.out.grow g).c 1
  by_cases hk : op < f.least
  · have e1 : decide (op < f.least) = true := by simp; omega
    clear hk
    refine Chain.start Nat (by kernel_rfl) (by kernel_rfl) (fun hg => ?_)
    repeat (first | (refine Chain.skip hg (fun t => by rfl) ?_; simp only [Act.put, List.setIfInBounds_toArray, List.set_cons_zero, List.set_cons_succ]) | (refine Chain.pure hg (X := ?_) (fun t W hw hN => ⟨by rfl, ?_⟩) ?_; rotate_left; (focus (go_simp <;> with_reducible rfl)); simp only [Act.put, List.setIfInBounds_toArray, List.set_cons_zero, List.set_cons_succ]))
    refine Chain.done (fun t W hw hN => ?_)
    have G2 := Lib.hid (GA.out.trans hw)
    clear hN hg y6 q1 hw e1
    go_wp2
    go_ret
    exact ⟨rfl, G2.out⟩
  · have e1 : decide (op < f.least) = false := by simp; omega
    have e3 : (frm == f.me) = true := by
      rcases HS.out with h | h
      · exact absurd h hk
      · simp [h.2]
    have y2 : ∀ W, Grow w1 W → W.cell? ⟨w.heap.size, 2, none⟩ = some (.int .i64 frm) := fun W g => cell_of_row W _ 2 _ _ (0, 0) (row_grow BX.out g)
    have q0 : ∀ W, Grow w1 W → W.cell? ⟨p, 0, none⟩ = some (.int .i64 f.me) := fun W g => (H1.out.grow g).c 0
    clear hk
    refine Chain.start Nat (by kernel_rfl) (by kernel_rfl) (fun hg => ?_)
    repeat (first | (refine Chain.skip hg (fun t => by rfl) ?_; simp only [Act.put, List.setIfInBounds_toArray, List.set_cons_zero, List.set_cons_succ]) | (refine Chain.pure hg (X := ?_) (fun t W hw hN => ⟨by rfl, ?_⟩) ?_; rotate_left; (focus (go_simp <;> with_reducible rfl)); simp only [Act.put, List.setIfInBounds_toArray, List.set_cons_zero, List.set_cons_succ]))
    refine Chain.done (fun t W hw hN => ?_)
    have G2 := Lib.hid (GA.out.trans hw)
    clear hN hg y6 q1 y2 q0 hw e1 e3
    go_wp2
    go_ret
    exact ⟨rfl, G2.out⟩
end Go.Proofs.Ytlnokohmmhmoaaa

