/-
  past: the contract of Undo.
-/
import Derived.Test.YtfpbmpgdpnpdjaaPAsk
namespace Go.Proofs.Ytfpbmpgdpnpdjaa
open Go.RowKit
set_option linter.unusedSimpArgs false

theorem ocs_set : ∀ (l : List (O × Value)) (j : Nat) (o : O) (v : Value) (b : Bool), l[j]? = some (o, v) → (ocs l).set (j * 4 + 3) (.bool b) = ocs (l.set j ({ o with un := b }, v))
  | [], j, o, v, b, h => by simp at h
  | x :: l, 0, o, v, b, h => by simp at h; subst h; rfl
  | x :: l, j + 1, o, v, b, h => by
    rw [ocs_cons, List.set_append_right _ _ (by rw [ocell_len]; omega), ocell_len, show (j + 1) * 4 + 3 - 4 = j * 4 + 3 by omega, ocs_set l j o v b (by simpa using h)]
    rfl
def undoO (os : List O) (j : Nat) : List O := os.modify j fun o => { o with un := true }
theorem undo_map {l : List (O × Value)} {j : Nat} {o : O} {v : Value} (h : l[j]? = some (o, v)) : (l.set j ({ o with un := true }, v)).map (·.1) = undoO (l.map (·.1)) j := by
  unfold undoO
  refine List.ext_getElem? fun i => ?_
  rw [List.getElem?_modify, List.getElem?_map, List.getElem?_map, List.getElem?_set]
  by_cases e : j = i
  · subst e
    rw [if_pos rfl, h]
    have : j < l.length := (List.getElem?_eq_some_iff.1 h).1
    simp [this]
  · rw [if_neg e]
    cases l[i]? <;> simp [e]
theorem PastAt.undo {w : World} {S : Nat → Prop} {p q g c n j : Nat} {B : Value} {l : List (O × Value)} {lens : List Int} {o : O} {v : Value} (h : PastAt w S p q (.slice (some ⟨g, 0, none⟩) n c) l B lens) (hj : l[j]? = some (o, v)) :
    PastAt (w.setCell ⟨g, j * 4 + 3, none⟩ (.bool true)) S p q (.slice (some ⟨g, 0, none⟩) n c) (l.set j ({ o with un := true }, v)) B lens := by
  have hn := own_len h.own.row
  subst hn
  obtain ⟨hs1, hs2⟩ := h.own.row.stored (j * 4 + 3) (.bool true)
  rw [ocs_set l j o v true hj] at hs1
  have gs : GrowS (fun i => i = g) w (w.setCell ⟨g, j * 4 + 3, none⟩ (.bool true)) := GrowS.setCell (T := fun i => i = g) w (p := ⟨g, j * 4 + 3, none⟩) rfl _
  have hmem : ∀ x ∈ l.set j ({ o with un := true }, v), ∃ y ∈ l, x.2 = y.2 ∧ x.1.us = y.1.us := fun x hx => by
    rcases List.mem_or_eq_of_mem_set hx with hx | rfl
    · exact ⟨x, hx, rfl, rfl⟩
    · exact ⟨(o, v), List.mem_of_getElem? hj, rfl, rfl⟩
  refine PastAt.make (gs.kept h.st (fun e => h.pv g rfl e.symm)) (by rw [List.length_set]; exact hs1) h.own.rowIn (fun x hx => ?_) (fun x hx => ?_) (gs.own h.len (fun k hk e => h.vb g rfl (e ▸ hk))) (by rw [List.length_set]; exact h.n) h.pIn h.lensIn (fun k hk => Nat.lt_of_lt_of_le (h.lt k hk) gs.size)
  · obtain ⟨y, hy, e1, e2⟩ := hmem x hx
    rw [e1, e2]
    exact gs.own (h.own.each y hy) (fun k hk e => h.own.apart y hy g rfl (e ▸ hk))
  · obtain ⟨y, hy, e1, e2⟩ := hmem x hx
    rw [e1]
    exact h.own.eachIn y hy
set_option maxRecDepth 100000 in
theorem undo1_any {p q j b1 b2 : Nat} {o : O} {V B : Value} {l : List (O × Value)} {lens : List Int} {S : Nat → Prop} {w : World} (hP : PastAt w S p q V l B lens) (hk : l.length ≤ 256) (ho : (l.map (·.1))[j]? = some o)
    (h1 : w.heap[b1]? = some (.cells #[.pointer (some ⟨p, 0, none⟩)] 59 (0, 0))) (h2 : w.heap[b2]? = some (.cells #[.bool false] 4 (0, 0))) (hb2 : ¬ S b2) :
    Calls Try.prog 69 #[.int .i64 ((j + 1 : Nat) : Int), .pointer (some ⟨b1, 0, none⟩), .pointer (some ⟨b2, 0, none⟩)] w fun e w' => e = .returned (.tuple #[]) ∧ w'.heap[b2]? = some (.cells #[.bool o.un] 4 (0, 0)) ∧ PastIs w' S p q (undoO (l.map (·.1)) j) lens ∧ GrowS (fun k => S k ∨ k = b2) w w' := by
  have hd : j < l.length := by have := (List.getElem?_eq_some_iff.1 ho).1; simpa using this
  obtain ⟨g, c, rfl⟩ := own_pos hP.own.row (by omega)
  obtain ⟨k, hlk⟩ : ∃ k, l.length = k := ⟨_, rfl⟩
  rw [hlk] at hP hk hd
  have HB2 := Lib.hid h2; have HP := Lib.hid hP
  have x1 := cell_of_row w b1 0 _ _ (0, 0) h1
  have x2 := cell_of_row w b2 0 _ _ (0, 0) h2
  have f2 := frozen_of_row w b2 0 _ _ h2
  have y1 := hP.c1
  obtain ⟨⟨o2, v⟩, hx⟩ : ∃ u, l[j]? = some u := ⟨_, List.getElem?_eq_getElem (by omega)⟩
  obtain rfl : o2 = o := by rw [List.getElem?_map, hx] at ho; simpa using ho
  have HX := Lib.hid hx; have HLK := Lib.hid hlk
  obtain ⟨z0, z1, z2, z3⟩ := hP.own.lie.cells hx w (Grow.refl _)
  have i0 : (0 : Int) ≤ (j : Int) := by omega
  have i1 : (j : Int) < (k : Int) := by omega
  have gs : GrowS (fun i => i = b2) w (w.setCell ⟨b2, 0, none⟩ (.bool o2.un)) := GrowS.setCell (T := fun i => i = b2) w (p := ⟨b2, 0, none⟩) rfl _
  have hP2 := hP.keep gs (fun i hi e => hb2 (e ▸ hi))
  have z5 := (hP2.own.lie.cells hx _ (Grow.refl _)).2.2.2
  have hrow2 := hP2.own.row
  rw [hlk] at hrow2
  have f5 := hrow2.frozenAt (j * 4 + 3)
  have HP2 := Lib.hid hP2; have GS := Lib.hid gs
  have hgb : g ≠ b2 := fun e => hb2 (e ▸ hP.own.rowIn g rfl)
  clear hP h1 h2 ho hx z0 z1 z2 hP2 gs hrow2 hlk
  rw [Nat.zero_add] at z3 z5
  go_enter Try.func69, Try.ntmps69
  go_wp2
  go_end0
  have hb5 := heap_setCell_same w b2 0 _ _ (.bool o2.un) HB2.out
  have gs2 : GrowS S (w.setCell ⟨b2, 0, none⟩ (.bool o2.un)) ((w.setCell ⟨b2, 0, none⟩ (.bool o2.un)).setCell ⟨g, j * 4 + 3, none⟩ (.bool true)) := GrowS.setCell (T := S) _ (p := ⟨g, j * 4 + 3, none⟩) (HP2.out.own.rowIn g rfl) _
  exact ⟨rfl, gs2.kept (by simpa using hb5) hb2, ⟨_, _, _, undo_map HX.out, HP2.out.undo HX.out⟩, (GS.out.mono (fun _ h => .inr h)).trans (gs2.mono (fun _ h => .inl h))⟩
set_option maxRecDepth 100000 in
theorem undo_ok {p q j : Nat} {r : Int} {o : O} {os : List O} {lens : List Int} {S : Nat → Prop} {w : World} (hP : PastIs w S p q os lens) (hk : os.length ≤ 256) (hq : q ≤ 2305843009213693952) (ho : os[j]? = some o) (hr : r = (q : Int) + ((j + 1 : Nat) : Int)) :
    Calls Try.prog 42 #[.pointer (some ⟨p, 0, none⟩), .int .u64 r] w fun e w' => e = .returned (.int .i64 (if o.un then 34 else 0)) ∧ PastIs w' S p q (undoO os j) lens ∧ GrowS S w w' := by
  obtain ⟨V, l, B, hos, hP⟩ := hP
  obtain ⟨A, c, rfl⟩ := hP.formV
  subst hos
  have hd : j < l.length := by have := (List.getElem?_eq_some_iff.1 ho).1; simpa using this
  rw [List.length_map] at hk
  have HP := Lib.hid hP; have HR := Lib.hid hr; have HO := Lib.hid ho
  obtain ⟨u, hun⟩ : ∃ u, o.un = u := ⟨_, rfl⟩
  rw [hun]
  have HUN := Lib.hid hun
  clear hP hr ho hun
  go_enter Try.func42, Try.ntmps42
  go_wp2_with fail
  have g2 : Grow w ((w.alloc (.cells #[.pointer (some ⟨p, 0, none⟩)] 59)).alloc (.cells #[.bool false] 4)) := (Grow.alloc _ _).trans (Grow.alloc _ _)
  have hb1 := heap_alloc2_old w (.cells #[.pointer (some ⟨p, 0, none⟩)] 59) (.cells #[.bool false] 4)
  have hb2 := heap_alloc2_new w (.cells #[.pointer (some ⟨p, 0, none⟩)] 59) (.cells #[.bool false] 4)
  have P2 := HP.out.grow g2
  refine (at_do_undo P2.c0 P2.c1 P2.c3 hq (by omega) HR.out (by omega) (.inr rfl) (by omega) (undo1_any P2 hk HO.out hb1 (by simpa using hb2) (fun hs => by have := HP.out.lt _ hs; omega))).mono ?_
  rintro e w1 ⟨rfl, hb3, hP3, g1⟩
  have P3 := Lib.hid hP3; have G1 := Lib.hid g1; have HB := Lib.hid hb3
  have x0 := cell_of_row w1 (w.heap.size + 1) 0 _ _ (0, 0) HB.out
  have GF : Hid (GrowS S w w1) := ((Grow.alloc w _).trans (Grow.alloc _ _)).wide (T := S) |>.news G1.out (fun i hi => hi.imp id (fun e => by omega))
  clear hP3 g1 hb3 g2 hb1 hb2 P2
  rw [HUN.out] at x0
  clear HB
  cases u with
  | true =>
    go_wp2
    go_ret
    exact ⟨rfl, P3.out, GF.out⟩
  | false =>
    go_wp2
    go_ret
    exact ⟨rfl, P3.out, GF.out⟩
set_option maxRecDepth 100000 in
theorem undo_err {pa : Option Addr} {r k : Int} {w : World} (h : Refuses w pa r 1 k) :
    Calls Try.prog 42 #[.pointer pa, .int .u64 r] w fun e w' => e = .returned (.int .i64 k) ∧ Grow w w' := by
  have HH := Lib.hid h
  clear h
  go_enter Try.func42, Try.ntmps42
  go_wp2_with fail
  refine (HH.out _ _ ((Grow.alloc _ _).trans (Grow.alloc _ _))).mono ?_
  rintro e w1 ⟨rfl, rfl⟩
  have hb := heap_alloc2_new w (.cells #[.pointer pa] 59) (.cells #[.bool false] 4)
  have x0 := cell_of_row _ (w.heap.size + 1) 0 _ _ (0, 0) hb
  go_wp2
  go_ret
  exact ⟨rfl, (Grow.alloc w _).trans (Grow.alloc _ _)⟩
end Go.Proofs.Ytfpbmpgdpnpdjaa

