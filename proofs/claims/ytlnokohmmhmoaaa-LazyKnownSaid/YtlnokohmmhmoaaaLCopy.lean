/-
  lazy: the contract of Copy.
-/
import Derived.Test.YtlnokohmmhmoaaaLTake1
namespace Go.Proofs.Ytlnokohmmhmoaaa
open Go.RowKit
set_option linter.unusedSimpArgs false

theorem own_emptyD (w : World) {base g : Nat} (hb : base ≤ w.heap.size) (hg : g = w.heap.size) : (w.alloc (.cells #[] 73)).ownsRow base 73 6 (.slice (some ⟨g, 0, none⟩) 0 0) 0 (([] : List (Dt × Value)).flatMap dcell) := by
  subst hg
  exact World.ownsRow_made w #[] 0 hb (by simp [maxLen]) rfl
theorem own_nilD (w : World) (base : Nat) : w.ownsRow base 73 6 (.slice none 0 0) 0 (([] : List (Dt × Value)).flatMap dcell) := ⟨rfl, .inl ⟨rfl, rfl⟩⟩
theorem grown_newD {w0 w w' : World} {row : Option Nat} (h : w.grownBy w' row) (g : Grow w0 w) (hr : ∀ k, row = some k → w0.heap.size ≤ k) : Grow w0 w' :=
  (h.wide (T := fun k => row = some k) (fun _ k => k)).over g hr
set_option maxRecDepth 100000 in
theorem cloneD_any {A : Option Addr} {n c : Nat} {l : List (Dt × Value)} {w : World} (hL : Lies w 6 A n c (l.flatMap dcell)) (hoc : ∀ x ∈ l, x.2.oneCell' = true) (hn : n * 64 ≤ 140737488355328) :
    Calls Try.prog 30 #[.slice A n c] w fun e w' => ∃ A' c', e = .returned (.slice A' n c') ∧ w'.ownsRow 0 73 6 (.slice A' n c') n (l.flatMap dcell) ∧ (∀ k, (Value.slice A' n c').ownBlock = some k → w.heap.size ≤ k) ∧ Grow w w' := by
  have hln := Lies.flat_n dcell_len (by decide) hL
  have q : ∀ (w : World) (a : Option Addr) (n c n' c' : Nat), (binOp .eql 64 (.slice a n c) (.slice none n' c')).run Try.prog w = .ok (.bool a.isNone) w := fun w a n c n' c' => Lib.run_eql_slice_nil w _ _ a n c n' c' Try.underlying64
  rcases A with _ | ad
  · obtain rfl := hL.none_ rfl
    obtain rfl := hL.nilc rfl
    obtain rfl : l = [] := List.eq_nil_of_length_eq_zero hln
    clear hL
    go_enter Try.func30, Try.ntmps30
    go_wp2
    go_ret
    exact ⟨none, 0, rfl, own_nilD _ _, fun k hk => (by cases hk), Grow.refl _⟩
  · have HL := Lib.hid hL
    have HOC := Lib.hid hoc
    clear hL hln hoc
    go_enter Try.func30, Try.ntmps30
    go_wp2_with (at_builtin; refine wpList_appD rfl (.tmp 5) (.tmp 6) rfl _ 0 [] rfl (own_emptyD w (Nat.zero_le _) rfl) (some ad) n c l rfl (HL.out.alloc _) HOC.out (by omega) ?_; intro A2 c2 w2 own2 gr2 fr2)
    go_ret
    simp only [Nat.zero_add, List.nil_append] at own2 fr2
    exact ⟨A2, c2, by simp, own2, fun k hk => by
      rcases fr2 with e | e
      · have hk2 : some w.heap.size = some k := by rw [← hk, e]; rfl
        injection hk2 with hk2; omega
      · have := e k hk; simp at this; omega, grown_newD gr2 (Grow.alloc _ _) (fun k hk => by have hk : some w.heap.size = some k := hk; injection hk with hk; omega)⟩
set_option maxRecDepth 100000 in
set_option maxHeartbeats 4000000 in
theorem copy_ok {T R : Nat → Prop} {p : Nat} {f : F} {w : World} (h : FIs w T R p f) (hn : f.docs.length ≤ 1000) :
    Calls Try.prog 11 #[.pointer (some ⟨p, 0, none⟩)] w fun e w' => ∃ (p2 : Nat) (T2 : Nat → Prop), e = .returned (.pointer (some ⟨p2, 0, none⟩)) ∧ FIs w' T2 R p2 f ∧ (∀ k, T2 k → w.heap.size ≤ k) ∧ Grow w w' := by
  obtain ⟨b, Rv, V, l, h⟩ := h
  have hll : l.length ≤ 1000 := by rw [← h.map, List.length_map] at hn; exact hn
  obtain ⟨A6, c6', rfl, -⟩ := own_form h.docs
  obtain ⟨k2, hk2⟩ : ∃ k2, l.length = k2 := ⟨_, rfl⟩
  rw [hk2] at h hll
  have c11 : w.cell? ⟨p, 11, none⟩ = some (.bool true) := h.c 11
  have c0 := cell_of_row w p 0 _ _ (0, 0) h.st
  have c1 := cell_of_row w p 1 _ _ (0, 0) h.st
  have c2 := cell_of_row w p 2 _ _ (0, 0) h.st
  have c3 := cell_of_row w p 3 _ _ (0, 0) h.st
  have c4 := cell_of_row w p 4 _ _ (0, 0) h.st
  have c5 := cell_of_row w p 5 _ _ (0, 0) h.st
  have c6 := cell_of_row w p 6 _ _ (0, 0) h.st
  have c7 := cell_of_row w p 7 _ _ (0, 0) h.st
  have c8 := cell_of_row w p 8 _ _ (0, 0) h.st
  have c9 := cell_of_row w p 9 _ _ (0, 0) h.st
  have c10 := cell_of_row w p 10 _ _ (0, 0) h.st
  have c0 : w.cell? ⟨p, 0, none⟩ = some (.int .i64 f.me) := c0
  have c1 : w.cell? ⟨p, 1, none⟩ = some (.int .u64 f.least) := c1
  have c2 : w.cell? ⟨p, 2, none⟩ = some (.map (some b)) := c2
  have c3 : w.cell? ⟨p, 3, none⟩ = some (.int .i64 f.frm) := c3
  have c4 : w.cell? ⟨p, 4, none⟩ = some (.int .u64 f.op) := c4
  have c5 : w.cell? ⟨p, 5, none⟩ = some Rv := c5
  have c6 : w.cell? ⟨p, 6, none⟩ = some (.slice A6 k2 c6') := c6
  have c7 : w.cell? ⟨p, 7, none⟩ = some (.int .u64 f.asked) := c7
  have c8 : w.cell? ⟨p, 8, none⟩ = some (.int .u64 f.now) := c8
  have c9 : w.cell? ⟨p, 9, none⟩ = some (.int .i64 f.vain) := c9
  have c10 : w.cell? ⟨p, 10, none⟩ = some (.bool f.fresh) := c10
  obtain ⟨Ar, nr, cr, rfl, -⟩ := h.rest.lies
  have H1 := Lib.hid h; have HK2 := Lib.hid hk2
  clear h hk2 hn
  go_enter Try.func11, Try.ntmps11
  go_wp2_with fail
  refine (fnone_made c11).mono ?_
  rintro e w2 ⟨rfl, rfl⟩
  go_upto_region 4 with fail
  have hbox := heap_alloc_new w (.cells (fcells f b (.slice Ar nr cr) (.slice A6 k2 c6')) 66)
  have ga := Grow.alloc w (.cells (fcells f b (.slice Ar nr cr) (.slice A6 k2 c6')) 66)
  unfold fcells at hbox ga
  generalize w.alloc _ = w1 at *
  have H2 := Lib.hid (H1.out.grow ga); have BX := Lib.hid hbox; have GA := Lib.hid ga
  clear hbox ga c0 c1 c2 c3 c4 c5 c6 c7 c8 c9 c10 c11
  have c6 : w1.cell? ⟨p, 6, none⟩ = some (.slice A6 k2 c6') := H2.out.c 6
  go_wp2_with fail
  refine (cloneD_any (l := l) (Lies.of_own (by have := H2.out.docs; rw [HK2.out] at this; exact this)) (fun x hx => by obtain ⟨A, n, c, e, -⟩ := (H2.out.each x hx).lies; rw [e]; rfl) (by omega)).mono ?_
  rintro e w3 ⟨A3, c3, rfl, own3, fr3, g3⟩
  have BX3 := Lib.hid (row_grow BX.out g3); have G3 := Lib.hid (GA.out.trans g3); have H3 := Lib.hid (H2.out.grow g3); have O3 := Lib.hid own3; have FR3 := Lib.hid fr3; have G13 := Lib.hid g3
  have a6 := cell_of_row w3 _ 6 _ _ (0, 0) BX3.out
  have b6 := frozen_of_row w3 _ 6 _ _ BX3.out
  have a6 : w3.cell? ⟨w.heap.size, 6, none⟩ = some (.slice A6 k2 c6') := a6
  clear own3 fr3 g3 c6
  go_wp2
  go_ret
  have gs : GrowS (fun q => q = w.heap.size) w3 (w3.setCell ⟨w.heap.size, 6, none⟩ (.slice A3 k2 c3)) := GrowS.setCell (T := fun q => q = w.heap.size) w3 (p := ⟨w.heap.size, 6, none⟩) rfl _
  have hg : Grow w (w3.setCell ⟨w.heap.size, 6, none⟩ (.slice A3 k2 c3)) := gs.over G3.out (fun q hq => by omega)
  have st := heap_setCell_same w3 w.heap.size 6 _ _ (.slice A3 k2 c3) BX3.out
  have HF := H1.out.grow hg
  have sz1 : w1.heap.size ≤ w3.heap.size := G13.out.size
  have szw : w.heap.size < w1.heap.size := by
    rcases Nat.lt_or_ge w.heap.size w1.heap.size with h | h
    · exact h
    · have := BX.out; rw [Array.getElem?_eq_none h] at this; cases this
  refine ⟨w.heap.size, fun q => q = w.heap.size ∨ (Value.slice A3 k2 c3).ownBlock = some q, rfl, ⟨b, .slice Ar nr cr, .slice A3 k2 c3, l, ⟨by simpa using st, HF.hand, HF.bR, HF.rest, ?_, fun g hg => .inr hg, HF.map, HF.each, .inl rfl, ?_, ?_, HF.ltR⟩⟩, ?_, hg⟩
  · rw [HK2.out]
    exact gs.own O3.out (fun q hq e => by have := FR3.out q hq; omega)
  · intro q hq hr
    have h1 := H1.out.ltR q hr
    rcases hq with rfl | hq
    · omega
    · have := FR3.out q hq; omega
  · intro q hq
    have h1 := gs.size
    rcases hq with rfl | hq
    · omega
    · have := (O3.out.lt q hq).2; omega
  · intro q hq
    rcases hq with rfl | hq
    · omega
    · have := FR3.out q hq; omega
end Go.Proofs.Ytlnokohmmhmoaaa

