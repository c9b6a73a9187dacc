/-
  lazy: the contract of the law's few.
-/
import Derived.Test.YtlnokohmmhmoaaaLState
namespace Go.Proofs.Ytlnokohmmhmoaaa
open Go.RowKit
set_option linter.unusedSimpArgs false

theorem cut_min (n k : Nat) (K : Int) (hK : K = (k : Int)) : ∃ m : Nat, (if K < (n : Int) then K else (n : Int)) = (m : Int) ∧ m = min n k := ⟨min n k, by split <;> omega, rfl⟩
theorem Lies.takeP {w : World} {A : Option Addr} {n c j : Nat} {l : List (Pt × Value)} (h : Lies w 4 A n c (l.flatMap pcell)) (hj : j ≤ n) : Lies w 4 A j c ((l.take j).flatMap pcell) := by
  have hn := Lies.flat_n pcell_len (by decide) h
  refine ⟨?_, h.nilc, Nat.le_trans hj h.le, h.big, fun a ha i u hu => h.cells a ha i u ?_⟩
  · rw [flat_len pcell_len, List.length_take, Nat.min_eq_left (by omega)]
  · rw [← flat_take pcell_len j l (by omega)] at hu
    rw [List.getElem?_take] at hu
    split at hu
    · exact hu
    · cases hu
theorem own_emptyP (w : World) {base g : Nat} (hb : base ≤ w.heap.size) (hg : g = w.heap.size) : (w.alloc (.cells #[] 31)).ownsRow base 31 4 (.slice (some ⟨g, 0, none⟩) 0 0) 0 (([] : List (Pt × Value)).flatMap pcell) := by
  subst hg
  exact World.ownsRow_made w #[] 0 hb (by simp [maxLen]) rfl
def cutP (x : Pt) : Pt := { x with bs := x.bs.take 300 }
def fewP (l : List Pt) : List Pt := (l.take 40).map cutP
def cutS : Value → Value
  | .slice A n c => .slice A (min n 300) c
  | v => v
def cutX (x : Pt × Value) : Pt × Value := (cutP x.1, cutS x.2)
theorem BytesAt.cut {w : World} {R : Nat → Prop} {x : Pt × Value} (h : BytesAt w R x.2 x.1.bs) : BytesAt w R (cutX x).2 (cutX x).1.bs := by
  obtain ⟨x, v⟩ := x
  obtain ⟨A, n, c, h1, h2, h3⟩ := h.lies
  simp only at h1 h2
  subst h1
  have hl := h2.bytes_len
  refine ⟨A, min n 300, c, rfl, ?_, fun a ha h0 => h3 a ha (by omega)⟩
  have := h2.takeb (min n 300) (by omega)
  have e : x.bs.take (min n 300) = (cutP x).bs := by
    unfold cutP
    rcases Nat.le_total n 300 with h | h
    · rw [Nat.min_eq_left h, List.take_of_length_le (by omega), List.take_of_length_le (by omega)]
    · rw [Nat.min_eq_right h]
  show Lies w 1 A (min n 300) c (byt (cutP x).bs)
  rw [← e]
  exact this
/-- The first j are cut. -/
def cutTo (l : List (Pt × Value)) (j : Nat) : List (Pt × Value) := (l.take j).map cutX ++ l.drop j
theorem cutTo_len (l : List (Pt × Value)) (j : Nat) : (cutTo l j).length = l.length := by simp [cutTo]; omega
theorem cutTo_at {l : List (Pt × Value)} {j : Nat} {x : Pt × Value} (hx : l[j]? = some x) : (cutTo l j)[j]? = some x := by
  have := (List.getElem?_eq_some_iff.1 hx).1
  unfold cutTo
  rw [List.getElem?_append_right (by simp; omega)]
  simp only [List.length_map, List.length_take, List.getElem?_drop]
  rw [Nat.min_eq_left (by omega), Nat.sub_self, Nat.add_zero]
  exact hx
theorem cutTo_set {l : List (Pt × Value)} {j : Nat} {x : Pt × Value} (hx : l[j]? = some x) : (cutTo l j).set j (cutX x) = cutTo l (j + 1) := by
  have hj := (List.getElem?_eq_some_iff.1 hx).1
  unfold cutTo
  rw [List.set_append_right _ _ (by simp; omega)]
  simp only [List.length_map, List.length_take]
  rw [Nat.min_eq_left (by omega), Nat.sub_self, List.take_add_one, hx, List.map_append, List.drop_eq_getElem_cons hj, List.set_cons_zero, List.append_assoc]
  simp
theorem cutTo_full (l : List (Pt × Value)) : cutTo l l.length = l.map cutX := by simp [cutTo]
theorem few_map (l : List (Pt × Value)) : ((l.take (min l.length 40)).map cutX).map (·.1) = fewP (l.map (·.1)) := by
  unfold fewP
  rw [List.map_map, ← List.map_take, List.map_map]
  have : l.take (min l.length 40) = l.take 40 := by
    rcases Nat.le_total l.length 40 with h | h
    · rw [Nat.min_eq_left h, List.take_of_length_le (Nat.le_refl _), List.take_of_length_le h]
    · rw [Nat.min_eq_right h]
  rw [this]
  rfl
set_option maxRecDepth 100000 in
set_option maxHeartbeats 2000000 in
theorem few_any {A : Option Addr} {n c : Nat} {l : List (Pt × Value)} {R0 : Nat → Prop} {w : World} (hP : PsAt w R0 A n c l) (hR0 : ∀ k, R0 k → k < w.heap.size) :
    Calls Try.prog 23 #[.slice A n c] w fun e w' => ∃ (A' : Option Addr) (n' c' : Nat) (l' : List (Pt × Value)), e = .returned (.slice A' n' c') ∧ w'.ownsRow w.heap.size 31 4 (.slice A' n' c') n' (l'.flatMap pcell) ∧ (∀ x ∈ l', BytesAt w' R0 x.2 x.1.bs) ∧ l'.map (·.1) = fewP (l.map (·.1)) ∧ Grow w w' := by
  have hln := Lies.flat_n pcell_len (by decide) hP.row
  have hle := hP.row.le
  obtain ⟨m, hm, hmin⟩ := cut_min n 40 40 rfl
  have hmn : m ≤ n := by omega
  have hm1 : m ≤ 40 := by omega
  have HP := Lib.hid hP; have HLN := Lib.hid hln; have HR0 := Lib.hid hR0; have HMIN := Lib.hid hmin
  clear hP hln hR0 hmin
  go_enter Try.func23, Try.ntmps23
  have i0 : (0 : Int) ≤ (m : Int) := by omega
  have i1 : (m : Int) ≤ (n : Int) := by omega
  have i2 : (m : Int) ≤ (c : Int) := by omega
  go_wp2_with (
    at_builtin
    refine wpList_appPt rfl (.tmp 5) (.tmp 10) rfl w.heap.size _ 0 [] rfl (own_emptyP w (Nat.le_refl _) rfl) A m c (l.take m) rfl ((HP.out.row.takeP hmn).alloc _) (fun x hx => (HP.out.each x (List.mem_of_mem_take hx)).oc) (by omega) (by simp) ?_
    intro A2 c2 w2 own2 gr2)
  simp only [Nat.zero_add, List.nil_append] at own2
  have O2 := Lib.hid own2
  have G2 := Lib.hid (grown_newD gr2 (Grow.alloc w _) (fun k hk => by have hk : some w.heap.size = some k := hk; injection hk with hk; omega))
  have E0 := Lib.hid (show ∀ x ∈ l.take m, BytesAt w R0 x.2 x.1.bs from fun x hx => HP.out.each x (List.mem_of_mem_take hx))
  obtain ⟨L, hL⟩ : ∃ L, l.take m = L := ⟨_, rfl⟩
  have hLl : L.length = m := by rw [← hL, List.length_take, HLN.out]; omega
  rw [hL] at O2 E0
  have HL := Lib.hid hL; have HLL := Lib.hid hLl
  clear own2 gr2 hL hLl hm i0 i1 i2
  go_loopw [14] (fun i wr => ∃ j : Nat, j ≤ m ∧ i = .int .i64 j ∧ Hid (wr.ownsRow w.heap.size 31 4 (.slice A2 m c2) m ((cutTo L j).flatMap pcell)) ∧ Grow w wr) (fun i _ => m - (intOf i).toNat)
  case atStart => exact ⟨0, Nat.zero_le _, rfl, O2, G2.out⟩
  case round =>
    obtain ⟨j, hj, rfl, hO, hg⟩ := hrel
    have GR := Lib.hid hg
    clear hg
    by_cases hlt : j < m
    · obtain ⟨⟨x, v⟩, hx⟩ : ∃ x, L[j]? = some x := ⟨_, List.getElem?_eq_getElem (by have := HLL.out; omega)⟩
      obtain ⟨A7, k, c7, hv, L7, hR7⟩ := (E0.out _ (List.mem_of_getElem? hx)).lies
      simp only at hv L7
      subst hv
      obtain ⟨gd, cd, hA2⟩ := own_pos hO.out (by omega)
      injection hA2 with hA2 _ hc2
      subst hA2 hc2
      obtain ⟨mm, hmm, hmm2⟩ := cut_min k 300 300 rfl
      have HX := Lib.hid hx; have HM2 := Lib.hid hmm2
      have hkc := L7.le
      have i0 : (0 : Int) ≤ (j : Int) := by omega
      have i1 : (j : Int) < (m : Int) := by omega
      have k0 : (0 : Int) ≤ (mm : Int) := by omega
      have k1 : (mm : Int) ≤ (k : Int) := by omega
      have k2 : (mm : Int) ≤ (c7 : Int) := by omega
      have x3 := fun (W : World) (g : Grow wr W) => grow_cell (Lies.flat_cell (j := 3) pcell_len (Lies.of_own hO.out) (cutTo_at HX.out) rfl) g
      simp only [Nat.zero_add] at x3
      clear hx hmm2 L7 hR7 hkc
      go_upto_region 5 with fail
      refine Chain.start Nat (by kernel_rfl) (by kernel_rfl) (fun hg => ?_)
      repeat (first | (refine Chain.skip hg (fun t => by rfl) ?_; simp only [Act.put, List.setIfInBounds_toArray, List.set_cons_zero, List.set_cons_succ]) | (refine Chain.pure hg (X := ?_) (fun t W hw hN => ⟨by rfl, ?_⟩) ?_; rotate_left; (focus (go_simp <;> with_reducible rfl)); simp only [Act.put, List.setIfInBounds_toArray, List.set_cons_zero, List.set_cons_succ]))
      refine Chain.tail (tail_of (by kernel_rfl)) (fun t W hw hN => ?_)
      have OW := own_grow hO.out hw
      have a0 : W.cell? ⟨gd, j * 4 + 3, none⟩ = some (.slice A7 k c7) := x3 W hw
      have b0 := OW.frozenAt (j * 4 + 3)
      have st := (OW.stored (j * 4 + 3) (.slice A7 mm c7)).1
      rw [flat_set pcell_len _ j 3 (x, .slice A7 k c7) (cutX (x, .slice A7 k c7)) _ (cutTo_at HX.out) (by decide) (by rw [HM2.out]; rfl), cutTo_set HX.out] at st
      have gs := (GrowS.setCell (T := fun q => q = gd) W (p := ⟨gd, j * 4 + 3, none⟩) rfl (.slice A7 mm c7))
      have hgl : w.heap.size ≤ gd := (hO.out.lt gd rfl).1
      have O6 := Lib.hid st; have G6 := Lib.hid (gs.over (GR.out.trans hw) (fun q e => e ▸ hgl))
      clear hN hg OW st gs hw x3
      go_wp2
      go_roundw
      case rel => exact ⟨j + 1, by omega, by go_num, O6, G6.out⟩
      case measure => simp [intOf]; omega
    · obtain rfl : j = m := by omega
      have e : cutTo L j = L.map cutX := by rw [← HLL.out]; exact cutTo_full L
      have O5 := Lib.hid hO.out
      rw [e] at O5
      go_wp2
      go_ret
      refine ⟨A2, j, c2, L.map cutX, rfl, O5.out, fun x hx => ?_, ?_, GR.out⟩
      · obtain ⟨y, hy, rfl⟩ := List.mem_map.1 hx
        exact ((E0.out y hy).cut).grow GR.out
      · rw [← HL.out, HMIN.out, ← HLN.out]
        exact few_map l
end Go.Proofs.Ytlnokohmmhmoaaa

